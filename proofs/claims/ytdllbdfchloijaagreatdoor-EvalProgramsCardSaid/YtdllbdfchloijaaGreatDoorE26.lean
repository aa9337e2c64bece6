/- Texts of this seat, laid together: RtC, RpB. Each opens with its own remark, which says what it proves, and under which conditions. -/
import Derived.Test.YtdllbdfchloijaaGreatDoorE25
import Derived.Test.YtdllbdfchloijaaGreatDoorE24
set_option linter.unusedVariables false
set_option linter.unusedSimpArgs false
/- The reference's rows: constant; what an instruction makes of rows (do). -/
namespace Go.Proofs.YtdllbdfchloijaaGreatDoor
open Num
open Go.ChangeShapes Go.WideShapes Go.ChangeAt Go.RowKit
set_option linter.unusedVariables false
set_option linter.unusedSimpArgs false
attribute [local go_sem ↓] Go.wp_at_zero Go.wp_at_succ
set_option maxRecDepth 100000 in
set_option maxHeartbeats 2000000 in
theorem rconst5_c (t a b : Int) (c : Int) (h1 : -9223372036854775808 ≤ c) (h2 : c ≤ 9223372036854775807) (w : World) :
    Calls Tryz.prog 117 #[.agg #[.int .i64 5, .int .i64 t, .int .i64 a, .int .i64 b, .int .i64 c]] w fun e w' => (∃ v, e = .returned v ∧ IsRef w' v c) ∧ Below w.heap.size w w' := by
  have oc := fun W => rof_c c W h1 h2
  have hB := Below.refl w.heap.size w
  go_enter Tryz.func117, Tryz.ntmps117
  go_wp2_with fail
  refine (oc _).mono ?_
  rintro e w1 ⟨⟨v, rfl, hi⟩, hb1⟩
  have r0 : w1.cell? ⟨w.heap.size + 1, 0, none⟩ = some (.bool false) := bkc hb1
  have zr0 := cell_lt r0
  have r0f : w1.frozen? ⟨w.heap.size + 1, 0, none⟩ = false := bkcf (v := .bool false) hb1
  have r1 : w1.cell? ⟨w.heap.size + 1, 1, none⟩ = some (.slice none 0 0) := bkc hb1
  have r1f : w1.frozen? ⟨w.heap.size + 1, 1, none⟩ = false := bkcf (v := .slice none 0 0) hb1
  have hB : Below w.heap.size w w1 := bthen (by repeat (first | exact Below.refl _ _ | exact hB | refine Below.drew ?_ | refine below_drewN ?_ _ | refine bset ?_ (by simp <;> omega) _ | refine bal ?_ _)) hb1
  have hz : w.heap.size ≤ w1.heap.size := hB.size
  have HI2 := Lib.hid (hi.put2 r0 r1)
  obtain ⟨n4, a4, c4, l4, rfl, _, _, _, _⟩ := hi
  unfold iv at *
  clear oc
  go_wp2
  refine bodyPost_ret (v := .agg #[.bool n4, .slice a4 l4.length c4]) (by simp [results, Tryz.results117, go_sem, *]) rfl ⟨⟨_, rfl, HI2.out _ _⟩, ?_⟩
  repeat (first | exact Below.refl _ _ | exact hB | refine Below.drew ?_ | refine below_drewN ?_ _ | refine bset ?_ (by simp <;> omega) _ | refine bal ?_ _)
set_option maxRecDepth 100000 in
set_option maxHeartbeats 2000000 in
theorem rconst6_c (t a b : Int) (c : Int) (h1 : -9223372036854775808 ≤ c) (h2 : c ≤ 9223372036854775807) (w : World) :
    Calls Tryz.prog 117 #[.agg #[.int .i64 6, .int .i64 t, .int .i64 a, .int .i64 b, .int .i64 c]] w fun e w' => (∃ v, e = .returned v ∧ IsRef w' v c) ∧ Below w.heap.size w w' := by
  have oc := fun W => rof_c c W h1 h2
  have hB := Below.refl w.heap.size w
  go_enter Tryz.func117, Tryz.ntmps117
  go_wp2_with fail
  refine (oc _).mono ?_
  rintro e w1 ⟨⟨v, rfl, hi⟩, hb1⟩
  have r0 : w1.cell? ⟨w.heap.size + 1, 0, none⟩ = some (.bool false) := bkc hb1
  have zr0 := cell_lt r0
  have r0f : w1.frozen? ⟨w.heap.size + 1, 0, none⟩ = false := bkcf (v := .bool false) hb1
  have r1 : w1.cell? ⟨w.heap.size + 1, 1, none⟩ = some (.slice none 0 0) := bkc hb1
  have r1f : w1.frozen? ⟨w.heap.size + 1, 1, none⟩ = false := bkcf (v := .slice none 0 0) hb1
  have hB : Below w.heap.size w w1 := bthen (by repeat (first | exact Below.refl _ _ | exact hB | refine Below.drew ?_ | refine below_drewN ?_ _ | refine bset ?_ (by simp <;> omega) _ | refine bal ?_ _)) hb1
  have hz : w.heap.size ≤ w1.heap.size := hB.size
  have HI2 := Lib.hid (hi.put2 r0 r1)
  obtain ⟨n4, a4, c4, l4, rfl, _, _, _, _⟩ := hi
  unfold iv at *
  clear oc
  go_wp2
  refine bodyPost_ret (v := .agg #[.bool n4, .slice a4 l4.length c4]) (by simp [results, Tryz.results117, go_sem, *]) rfl ⟨⟨_, rfl, HI2.out _ _⟩, ?_⟩
  repeat (first | exact Below.refl _ _ | exact hB | refine Below.drew ?_ | refine below_drewN ?_ _ | refine bset ?_ (by simp <;> omega) _ | refine bal ?_ _)
set_option maxRecDepth 100000 in
set_option maxHeartbeats 2000000 in
theorem rconst7_c (t a b : Int) (m : Nat) (h1 : m ≤ 64) (w : World) :
    Calls Tryz.prog 117 #[.agg #[.int .i64 7, .int .i64 t, .int .i64 a, .int .i64 b, .int .i64 (m : Int)]] w fun e w' => (∃ v, e = .returned v ∧ IsRef w' v (2 ^ m)) ∧ Below w.heap.size w w' := by
  have oc := fun W => rpower_c m W (by omega)
  have hB := Below.refl w.heap.size w
  go_enter Tryz.func117, Tryz.ntmps117
  go_wp2_with fail
  refine (oc _).mono ?_
  rintro e w1 ⟨⟨v, rfl, hi⟩, hb1⟩
  have r0 : w1.cell? ⟨w.heap.size + 1, 0, none⟩ = some (.bool false) := bkc hb1
  have zr0 := cell_lt r0
  have r0f : w1.frozen? ⟨w.heap.size + 1, 0, none⟩ = false := bkcf (v := .bool false) hb1
  have r1 : w1.cell? ⟨w.heap.size + 1, 1, none⟩ = some (.slice none 0 0) := bkc hb1
  have r1f : w1.frozen? ⟨w.heap.size + 1, 1, none⟩ = false := bkcf (v := .slice none 0 0) hb1
  have hB : Below w.heap.size w w1 := bthen (by repeat (first | exact Below.refl _ _ | exact hB | refine Below.drew ?_ | refine below_drewN ?_ _ | refine bset ?_ (by simp <;> omega) _ | refine bal ?_ _)) hb1
  have hz : w.heap.size ≤ w1.heap.size := hB.size
  have HI2 := Lib.hid (hi.put2 r0 r1)
  obtain ⟨n4, a4, c4, l4, rfl, _, _, _, _⟩ := hi
  unfold iv at *
  clear oc
  go_wp2
  refine bodyPost_ret (v := .agg #[.bool n4, .slice a4 l4.length c4]) (by simp [results, Tryz.results117, go_sem, *]) rfl ⟨⟨_, rfl, HI2.out _ _⟩, ?_⟩
  repeat (first | exact Below.refl _ _ | exact hB | refine Below.drew ?_ | refine below_drewN ?_ _ | refine bset ?_ (by simp <;> omega) _ | refine bal ?_ _)
set_option maxRecDepth 100000 in
set_option maxHeartbeats 2000000 in
theorem rconst8_c (t a b : Int) (m : Nat) (h1 : m ≤ 64) (w : World) :
    Calls Tryz.prog 117 #[.agg #[.int .i64 8, .int .i64 t, .int .i64 a, .int .i64 b, .int .i64 (m : Int)]] w fun e w' => (∃ v, e = .returned v ∧ IsRef w' v (2 ^ m)) ∧ Below w.heap.size w w' := by
  have oc := fun W => rpower_c m W (by omega)
  have hB := Below.refl w.heap.size w
  go_enter Tryz.func117, Tryz.ntmps117
  go_wp2_with fail
  refine (oc _).mono ?_
  rintro e w1 ⟨⟨v, rfl, hi⟩, hb1⟩
  have r0 : w1.cell? ⟨w.heap.size + 1, 0, none⟩ = some (.bool false) := bkc hb1
  have zr0 := cell_lt r0
  have r0f : w1.frozen? ⟨w.heap.size + 1, 0, none⟩ = false := bkcf (v := .bool false) hb1
  have r1 : w1.cell? ⟨w.heap.size + 1, 1, none⟩ = some (.slice none 0 0) := bkc hb1
  have r1f : w1.frozen? ⟨w.heap.size + 1, 1, none⟩ = false := bkcf (v := .slice none 0 0) hb1
  have hB : Below w.heap.size w w1 := bthen (by repeat (first | exact Below.refl _ _ | exact hB | refine Below.drew ?_ | refine below_drewN ?_ _ | refine bset ?_ (by simp <;> omega) _ | refine bal ?_ _)) hb1
  have hz : w.heap.size ≤ w1.heap.size := hB.size
  have HI2 := Lib.hid (hi.put2 r0 r1)
  obtain ⟨n4, a4, c4, l4, rfl, _, _, _, _⟩ := hi
  unfold iv at *
  clear oc
  go_wp2
  refine bodyPost_ret (v := .agg #[.bool n4, .slice a4 l4.length c4]) (by simp [results, Tryz.results117, go_sem, *]) rfl ⟨⟨_, rfl, HI2.out _ _⟩, ?_⟩
  repeat (first | exact Below.refl _ _ | exact hB | refine Below.drew ?_ | refine below_drewN ?_ _ | refine bset ?_ (by simp <;> omega) _ | refine bal ?_ _)
/-- the reference's registers in a block that may be written -/
structure RegsQ (w : World) (rb : Nat) (g : Grid) : Prop where
  free : Free w rb
  ty : typOf w rb = some 91
  cell : ∀ k, k < g.length → ∃ u, w.cell? ⟨rb, k, none⟩ = some u ∧ RRow 0 w u (g.getD k [])
theorem RegsQ.keep {rb : Nat} {w w' : World} {g : Grid} (h : RegsQ w rb g) (k : Below w.heap.size w w') : RegsQ w' rb g :=
  ⟨h.free.keep k, typ_keep h.ty k, fun j hj => by obtain ⟨u, hu, hr⟩ := h.cell j hj; exact ⟨u, bkeep k hu, hr.keep lims_ref k⟩⟩
theorem RegsQ.step {rb nt : Nat} {w : World} {g : Grid} {v : Value} {r : List Int} (h : RegsQ w rb g) (hv : RRow 0 w v r) (ht : nt < g.length) : RegsQ (w.setCell ⟨rb, nt, none⟩ v) rb (g.set nt r) := by
  have hk : Kp (· ≠ 91) w (w.setCell ⟨rb, nt, none⟩ v) := (Kp.refl _ w).set (fun t ht => by rw [h.ty] at ht; cases ht; exact fun k => k rfl) _
  refine ⟨h.free.set _ _, by rw [typ_set]; exact h.ty, fun k hk' => ?_⟩
  rw [List.length_set] at hk'
  by_cases e : nt = k
  · subst e
    obtain ⟨u, hu, _⟩ := h.cell nt hk'
    refine ⟨v, cell_here hu _, ?_⟩
    have : (g.set nt r).getD nt [] = r := by simp [hk']
    rw [this]
    exact hv.kp lims_ref hk (by decide) (by decide)
  · obtain ⟨u, hu, hr⟩ := h.cell k hk'
    refine ⟨u, cell_far hu (fun e2 => e (by cases e2; rfl)) _, ?_⟩
    have : (g.set nt r).getD k [] = g.getD k [] := by simp [List.getElem?_set_ne e]
    rw [this]
    exact hr.kp lims_ref hk (by decide) (by decide)
/-- answers a row and true, or nothing and false -/
def AnsQ (z : Option (List Int)) (w : World) (e : Ending) (w' : World) : Prop :=
  (match z with
    | some r => ∃ v, e = .returned (.tuple #[v, .bool true]) ∧ RRow 0 w' v r
    | none => e = .returned (.tuple #[.slice none 0 0, .bool false])) ∧ Below w.heap.size w w'
theorem ansQ_some {z : Option (List Int)} {x : List Int} {v : Value} {w w' : World} (h : z = some x) (hv : RRow 0 w' v x) (hb : Below w.heap.size w w') : AnsQ z w (.returned (.tuple #[v, .bool true])) w' := by
  subst h; exact ⟨⟨v, rfl, hv⟩, hb⟩
theorem ansQ_none {z : Option (List Int)} {w w' : World} (h : z = none) (hb : Below w.heap.size w w') : AnsQ z w (.returned (.tuple #[.slice none 0 0, .bool false])) w' := by
  subst h; exact ⟨rfl, hb⟩
set_option maxRecDepth 100000 in
set_option maxHeartbeats 16000000 in
theorem rdo_c (i : Ins) (k rb rc m : Nat) (g : Grid) (w : World) (hr : RegsQ w rb g) (hi : InsOk i g.length) (hR : Rect m g) (hm : m ≤ 1099511627775) (hb : BdG k g) (hk : k ≤ 4294967296) (hn : g.length ≤ 128) :
    Calls Tryz.prog 75 #[i.v, .slice (some ⟨rb, 0, none⟩) g.length rc] w (AnsQ (stepR i (g.getD i.a.toNat []) (g.getD i.b.toNat [])) w) := by
  obtain ⟨o1, o2, t0, t1, a0, a1, b0, b1, hc⟩ := hi
  obtain ⟨op, it, ia, ib, ic⟩ := i
  dsimp only at o1 o2 t0 t1 a0 a1 b0 b1 hc ⊢
  obtain ⟨na, rfl⟩ : ∃ x : Nat, ia = x := ⟨ia.toNat, by omega⟩
  obtain ⟨nb, rfl⟩ : ∃ x : Nat, ib = x := ⟨ib.toNat, by omega⟩
  have a1' : na < g.length := by omega
  have b1' : nb < g.length := by omega
  rw [Int.toNat_natCast, Int.toNat_natCast]
  obtain ⟨ua, x0, hx⟩ := hr.cell na a1'
  obtain ⟨ub, y0, hy⟩ := hr.cell nb b1'
  have HL := Lib.hid (And.intro (hR na a1') (hR nb b1'))
  have HBD := Lib.hid (And.intro (fun j => hb na j) (fun j => hb nb j))
  obtain ⟨A, hA⟩ : ∃ A, g.getD na [] = A := ⟨_, rfl⟩
  obtain ⟨B, hB'⟩ : ∃ B, g.getD nb [] = B := ⟨_, rfl⟩
  rw [hA] at HL HBD hx ⊢
  rw [hB'] at HL HBD hy ⊢
  obtain ⟨n, hnE⟩ : ∃ n, g.length = n := ⟨_, rfl⟩
  rw [hnE] at a1' b1' hn ⊢
  clear hA hB' hb hr hR t0 t1 a0 a1 b0 b1 hnE
  have HX := Lib.hid hx
  have HY := Lib.hid hy
  have HC := Lib.hid hc
  have hLA : A.length ≤ 1099511627775 := by rw [HL.out.1]; exact hm
  have HLA := Lib.hid hLA
  have HEQ := Lib.hid (show A.length = B.length by rw [HL.out.1, HL.out.2])
  have hga : (na : Int) < (n : Int) := by omega
  have hgb : (nb : Int) < (n : Int) := by omega
  obtain ⟨xa, xc, rfl, -⟩ := hx
  obtain ⟨ya, yc, rfl, -⟩ := hy
  clear hc hLA
  have zrb := cell_lt x0
  have hB := Below.refl w.heap.size w
  unfold Ins.v
  dsimp only
  have ax := fun W (h : Below w.heap.size w W) => radd4_c _ _ A B k W (HX.out.keep lims_ref h) (HY.out.keep lims_ref h) HLA.out HEQ.out HBD.out.1 HBD.out.2 (by omega)
  have sx := fun W (h : Below w.heap.size w W) => rsub4_c _ _ A B k W (HX.out.keep lims_ref h) (HY.out.keep lims_ref h) HLA.out HEQ.out HBD.out.1 HBD.out.2 (by omega)
  have hop : op = 1 ∨ op = 2 ∨ op = 3 ∨ op = 4 ∨ op = 5 ∨ op = 6 ∨ op = 7 ∨ op = 8 := by omega
  clear o1 o2
  go_enter Tryz.func75, Tryz.ntmps75
  rcases hop with rfl | rfl | rfl | rfl | rfl | rfl | rfl | rfl
  · go_wp2
    go_ret2
    exact ansQ_some (stepR_self fun j hj => by simp [opI]) (HX.out.keep lims_ref (by repeat (first | exact Below.refl _ _ | exact hB | refine Below.drew ?_ | refine below_drewN ?_ _ | refine bset ?_ (by simp <;> omega) _ | refine bal ?_ _))) (by repeat (first | exact Below.refl _ _ | exact hB | refine Below.drew ?_ | refine below_drewN ?_ _ | refine bset ?_ (by simp <;> omega) _ | refine bal ?_ _))
  ·
    have oc := fun W => rof_c (-1) W (by omega) (by omega)
    go_wp2_with fail
    refine (oc _).mono ?_
    rintro e w5 ⟨⟨v5, rfl, h5⟩, hb5⟩
    have hB5 : Below w.heap.size w w5 := bthen (by repeat (first | exact Below.refl _ _ | exact hB | refine Below.drew ?_ | refine below_drewN ?_ _ | refine bset ?_ (by simp <;> omega) _ | refine bal ?_ _)) hb5
    have H5 := Lib.hid h5
    obtain ⟨n5, a5, c5, l5, rfl, -⟩ := h5
    unfold iv at *
    have hw5 := Below.refl w5.heap.size w5
    clear oc
    have mc := fun W (q : Below w5.heap.size w5 W) => rscale_c _ _ A _ k 65 W (HX.out.keep lims_ref (bthen hB5 q)) (H5.out.keep q) HLA.out HBD.out.1 (by unfold Bd; decide) (by omega)
    go_wp2_with fail
    refine (mc _ (by repeat (first | exact Below.refl _ _ | exact hw5 | refine Below.drew ?_ | refine below_drewN ?_ _ | refine bset ?_ (by simp <;> omega) _ | refine bal ?_ _))).mono ?_
    rintro e w9 ⟨⟨u, rfl, hu⟩, hb9⟩
    have hB9 : Below w.heap.size w w9 := bthen hB5 (bthen (by repeat (first | exact Below.refl _ _ | exact hw5 | refine Below.drew ?_ | refine below_drewN ?_ _ | refine bset ?_ (by simp <;> omega) _ | refine bal ?_ _)) hb9)
    clear mc
    have HU := Lib.hid (hu.row.rebase (Nat.zero_le _))
    obtain ⟨ua, un, uc, rfl⟩ : ∃ a n c, u = Value.slice a n c := by obtain ⟨a, c, h⟩ := hu.ex; exact ⟨a, _, c, h⟩
    clear hu
    go_wp2
    go_ret2
    exact ansQ_some (stepR_map (fun x => x * -1) fun j hj => by simp [opI]) HU.out (by repeat (first | exact Below.refl _ _ | exact hB9 | refine Below.drew ?_ | refine below_drewN ?_ _ | refine bset ?_ (by simp <;> omega) _ | refine bal ?_ _))
  ·
    go_wp2_with fail
    refine (ax _ (by repeat (first | exact Below.refl _ _ | exact hB | refine Below.drew ?_ | refine below_drewN ?_ _ | refine bset ?_ (by simp <;> omega) _ | refine bal ?_ _))).mono ?_
    rintro e w9 ⟨⟨u, rfl, hu⟩, hb9⟩
    have hB9 : Below w.heap.size w w9 := bthen (by repeat (first | exact Below.refl _ _ | exact hB | refine Below.drew ?_ | refine below_drewN ?_ _ | refine bset ?_ (by simp <;> omega) _ | refine bal ?_ _)) hb9
    have HU := Lib.hid (hu.row.rebase (Nat.zero_le _))
    obtain ⟨ua, un, uc, rfl⟩ : ∃ a n c, u = Value.slice a n c := by obtain ⟨a, c, h⟩ := hu.ex; exact ⟨a, _, c, h⟩
    clear hu
    go_wp2
    go_ret2
    exact ansQ_some (stepR_zip (fun x y => x + y) HEQ.out fun j hj => by simp [opI]) HU.out (by repeat (first | exact Below.refl _ _ | exact hB9 | refine Below.drew ?_ | refine below_drewN ?_ _ | refine bset ?_ (by simp <;> omega) _ | refine bal ?_ _))
  ·
    go_wp2_with fail
    refine (sx _ (by repeat (first | exact Below.refl _ _ | exact hB | refine Below.drew ?_ | refine below_drewN ?_ _ | refine bset ?_ (by simp <;> omega) _ | refine bal ?_ _))).mono ?_
    rintro e w9 ⟨⟨u, rfl, hu⟩, hb9⟩
    have hB9 : Below w.heap.size w w9 := bthen (by repeat (first | exact Below.refl _ _ | exact hB | refine Below.drew ?_ | refine below_drewN ?_ _ | refine bset ?_ (by simp <;> omega) _ | refine bal ?_ _)) hb9
    have HU := Lib.hid (hu.row.rebase (Nat.zero_le _))
    obtain ⟨ua, un, uc, rfl⟩ : ∃ a n c, u = Value.slice a n c := by obtain ⟨a, c, h⟩ := hu.ex; exact ⟨a, _, c, h⟩
    clear hu
    go_wp2
    go_ret2
    exact ansQ_some (stepR_zip (fun x y => x - y) HEQ.out fun j hj => by simp [opI]) HU.out (by repeat (first | exact Below.refl _ _ | exact hB9 | refine Below.drew ?_ | refine below_drewN ?_ _ | refine bset ?_ (by simp <;> omega) _ | refine bal ?_ _))
  · rw [constB_mul (.inl rfl)] at HC
    have hc := of_decide_eq_true HC.out
    have oc := fun W => rconst5_c it na nb ic (by omega) (by omega) W
    go_wp2_with fail
    refine (oc _).mono ?_
    rintro e w5 ⟨⟨v5, rfl, h5⟩, hb5⟩
    have hB5 : Below w.heap.size w w5 := bthen (by repeat (first | exact Below.refl _ _ | exact hB | refine Below.drew ?_ | refine below_drewN ?_ _ | refine bset ?_ (by simp <;> omega) _ | refine bal ?_ _)) hb5
    have H5 := Lib.hid h5
    obtain ⟨n5, a5, c5, l5, rfl, -⟩ := h5
    unfold iv at *
    have hw5 := Below.refl w5.heap.size w5
    clear oc
    have mc := fun W (q : Below w5.heap.size w5 W) => rscale_c _ _ A _ k 65 W (HX.out.keep lims_ref (bthen hB5 q)) (H5.out.keep q) HLA.out HBD.out.1 (const_bd hc.2.1 hc.2.2 (by omega)) (by omega)
    go_wp2_with fail
    refine (mc _ (by repeat (first | exact Below.refl _ _ | exact hw5 | refine Below.drew ?_ | refine below_drewN ?_ _ | refine bset ?_ (by simp <;> omega) _ | refine bal ?_ _))).mono ?_
    rintro e w9 ⟨⟨u, rfl, hu⟩, hb9⟩
    have hB9 : Below w.heap.size w w9 := bthen hB5 (bthen (by repeat (first | exact Below.refl _ _ | exact hw5 | refine Below.drew ?_ | refine below_drewN ?_ _ | refine bset ?_ (by simp <;> omega) _ | refine bal ?_ _)) hb9)
    clear mc
    have HU := Lib.hid (hu.row.rebase (Nat.zero_le _))
    obtain ⟨ua, un, uc, rfl⟩ : ∃ a n c, u = Value.slice a n c := by obtain ⟨a, c, h⟩ := hu.ex; exact ⟨a, _, c, h⟩
    clear hu
    go_wp2
    go_ret2
    exact ansQ_some (stepR_map (fun x => x * ic) fun j hj => by simp [opI]) HU.out (by repeat (first | exact Below.refl _ _ | exact hB9 | refine Below.drew ?_ | refine below_drewN ?_ _ | refine bset ?_ (by simp <;> omega) _ | refine bal ?_ _))
  · rw [constB_mul (.inr rfl)] at HC
    have hc := of_decide_eq_true HC.out
    have oc := fun W => rconst6_c it na nb ic (by omega) (by omega) W
    go_wp2_with fail
    refine (oc _).mono ?_
    rintro e w5 ⟨⟨v5, rfl, h5⟩, hb5⟩
    have hB5 : Below w.heap.size w w5 := bthen (by repeat (first | exact Below.refl _ _ | exact hB | refine Below.drew ?_ | refine below_drewN ?_ _ | refine bset ?_ (by simp <;> omega) _ | refine bal ?_ _)) hb5
    have H5 := Lib.hid h5
    obtain ⟨n5, a5, c5, l5, rfl, -⟩ := h5
    unfold iv at *
    have hw5 := Below.refl w5.heap.size w5
    clear oc
    have mc := fun W (q : Below w5.heap.size w5 W) => rowOverQ_c _ _ A _ (k + 65) W (HX.out.keep lims_ref (bthen hB5 q)) (H5.out.keep q) HLA.out (fun j => (HBD.out.1 j).mono (by omega)) (const_bd hc.2.1 hc.2.2 (by omega)) (by omega) hc.1
    go_wp2_with fail
    refine (mc _ (by repeat (first | exact Below.refl _ _ | exact hw5 | refine Below.drew ?_ | refine below_drewN ?_ _ | refine bset ?_ (by simp <;> omega) _ | refine bal ?_ _))).mono ?_
    rintro e w9 ⟨hp, hb9⟩
    have hB9 : Below w.heap.size w w9 := bthen hB5 (bthen (by repeat (first | exact Below.refl _ _ | exact hw5 | refine Below.drew ?_ | refine below_drewN ?_ _ | refine bset ?_ (by simp <;> omega) _ | refine bal ?_ _)) hb9)
    clear mc
    rcases hp with ⟨⟨j, hj, hne⟩, rfl⟩ | ⟨hall, u, rfl, hu⟩
    · have HNO := Lib.hid (stepR_fail (b := B) hj (show opI ⟨6, it, na, nb, ic⟩ _ _ = none by rw [opI_div, if_neg hne]))
      clear hne
      go_wp2
      go_ret2
      exact ansQ_none HNO.out (by repeat (first | exact Below.refl _ _ | exact hB9 | refine Below.drew ?_ | refine below_drewN ?_ _ | refine bset ?_ (by simp <;> omega) _ | refine bal ?_ _))
    · have HYE := Lib.hid (show stepR ⟨6, it, na, nb, ic⟩ A B = some (A.map fun x => x / ic) from stepR_map (fun x => x / ic) fun j hj => by rw [opI_div, if_pos (hall j hj)])
      clear hall
      have HU := Lib.hid (hu.row.rebase (Nat.zero_le _))
      obtain ⟨ua, un, uc, rfl⟩ : ∃ a n c, u = Value.slice a n c := by obtain ⟨a, c, h⟩ := hu.ex; exact ⟨a, _, c, h⟩
      clear hu
      go_wp2
      go_ret2
      exact ansQ_some HYE.out HU.out (by repeat (first | exact Below.refl _ _ | exact hB9 | refine Below.drew ?_ | refine below_drewN ?_ _ | refine bset ?_ (by simp <;> omega) _ | refine bal ?_ _))
  · rw [constB_shift (.inl rfl)] at HC
    have hc := of_decide_eq_true HC.out
    obtain ⟨m', rfl⟩ : ∃ m : Nat, ic = m := ⟨ic.toNat, by omega⟩
    have oc := fun W => rconst7_c it na nb m' (by omega) W
    go_wp2_with fail
    refine (oc _).mono ?_
    rintro e w5 ⟨⟨v5, rfl, h5⟩, hb5⟩
    have hB5 : Below w.heap.size w w5 := bthen (by repeat (first | exact Below.refl _ _ | exact hB | refine Below.drew ?_ | refine below_drewN ?_ _ | refine bset ?_ (by simp <;> omega) _ | refine bal ?_ _)) hb5
    have H5 := Lib.hid h5
    obtain ⟨n5, a5, c5, l5, rfl, -⟩ := h5
    unfold iv at *
    have hw5 := Below.refl w5.heap.size w5
    clear oc
    have mc := fun W (q : Below w5.heap.size w5 W) => rscale_c _ _ A _ k 65 W (HX.out.keep lims_ref (bthen hB5 q)) (H5.out.keep q) HLA.out HBD.out.1 (pow2_bd (by omega)) (by omega)
    go_wp2_with fail
    refine (mc _ (by repeat (first | exact Below.refl _ _ | exact hw5 | refine Below.drew ?_ | refine below_drewN ?_ _ | refine bset ?_ (by simp <;> omega) _ | refine bal ?_ _))).mono ?_
    rintro e w9 ⟨⟨u, rfl, hu⟩, hb9⟩
    have hB9 : Below w.heap.size w w9 := bthen hB5 (bthen (by repeat (first | exact Below.refl _ _ | exact hw5 | refine Below.drew ?_ | refine below_drewN ?_ _ | refine bset ?_ (by simp <;> omega) _ | refine bal ?_ _)) hb9)
    clear mc
    have HU := Lib.hid (hu.row.rebase (Nat.zero_le _))
    obtain ⟨ua, un, uc, rfl⟩ : ∃ a n c, u = Value.slice a n c := by obtain ⟨a, c, h⟩ := hu.ex; exact ⟨a, _, c, h⟩
    clear hu
    go_wp2
    go_ret2
    exact ansQ_some (stepR_map (fun x => x * 2 ^ m') fun j hj => by simp [opI]) HU.out (by repeat (first | exact Below.refl _ _ | exact hB9 | refine Below.drew ?_ | refine below_drewN ?_ _ | refine bset ?_ (by simp <;> omega) _ | refine bal ?_ _))
  · rw [constB_shift (.inr rfl)] at HC
    have hc := of_decide_eq_true HC.out
    obtain ⟨m', rfl⟩ : ∃ m : Nat, ic = m := ⟨ic.toNat, by omega⟩
    have oc := fun W => rconst8_c it na nb m' (by omega) W
    go_wp2_with fail
    refine (oc _).mono ?_
    rintro e w5 ⟨⟨v5, rfl, h5⟩, hb5⟩
    have hB5 : Below w.heap.size w w5 := bthen (by repeat (first | exact Below.refl _ _ | exact hB | refine Below.drew ?_ | refine below_drewN ?_ _ | refine bset ?_ (by simp <;> omega) _ | refine bal ?_ _)) hb5
    have H5 := Lib.hid h5
    obtain ⟨n5, a5, c5, l5, rfl, -⟩ := h5
    unfold iv at *
    have hw5 := Below.refl w5.heap.size w5
    clear oc
    have mc := fun W (q : Below w5.heap.size w5 W) => rowOverQ_c _ _ A _ (k + 65) W (HX.out.keep lims_ref (bthen hB5 q)) (H5.out.keep q) HLA.out (fun j => (HBD.out.1 j).mono (by omega)) (pow2_bd (by omega)) (by omega) (p2_ne m')
    go_wp2_with fail
    refine (mc _ (by repeat (first | exact Below.refl _ _ | exact hw5 | refine Below.drew ?_ | refine below_drewN ?_ _ | refine bset ?_ (by simp <;> omega) _ | refine bal ?_ _))).mono ?_
    rintro e w9 ⟨hp, hb9⟩
    have hB9 : Below w.heap.size w w9 := bthen hB5 (bthen (by repeat (first | exact Below.refl _ _ | exact hw5 | refine Below.drew ?_ | refine below_drewN ?_ _ | refine bset ?_ (by simp <;> omega) _ | refine bal ?_ _)) hb9)
    clear mc
    rcases hp with ⟨⟨j, hj, hne⟩, rfl⟩ | ⟨hall, u, rfl, hu⟩
    · have HNO := Lib.hid (stepR_fail (b := B) hj (show opI ⟨8, it, na, nb, m'⟩ _ _ = none by rw [opI_shr, if_neg hne]))
      clear hne
      go_wp2
      go_ret2
      exact ansQ_none HNO.out (by repeat (first | exact Below.refl _ _ | exact hB9 | refine Below.drew ?_ | refine below_drewN ?_ _ | refine bset ?_ (by simp <;> omega) _ | refine bal ?_ _))
    · have HYE := Lib.hid (show stepR ⟨8, it, na, nb, m'⟩ A B = some (A.map fun x => x / 2 ^ m') from stepR_map (fun x => x / 2 ^ m') fun j hj => by rw [opI_shr, if_pos (hall j hj)])
      clear hall
      have HU := Lib.hid (hu.row.rebase (Nat.zero_le _))
      obtain ⟨ua, un, uc, rfl⟩ : ∃ a n c, u = Value.slice a n c := by obtain ⟨a, c, h⟩ := hu.ex; exact ⟨a, _, c, h⟩
      clear hu
      go_wp2
      go_ret2
      exact ansQ_some HYE.out HU.out (by repeat (first | exact Below.refl _ _ | exact hB9 | refine Below.drew ?_ | refine below_drewN ?_ _ | refine bset ?_ (by simp <;> omega) _ | refine bal ?_ _))
end Go.Proofs.YtdllbdfchloijaaGreatDoor

/- The reference's programs: Check, Right. -/
namespace Go.Proofs.YtdllbdfchloijaaGreatDoor
open Go.ChangeShapes Go.WideShapes Go.ChangeAt Go.RowKit
set_option linter.unusedVariables false
set_option linter.unusedSimpArgs false
/-- what the reference's Check answers; its Right -/
def RCheckP (ins regs : Int) (code : List Ins) (outs : List Int) (w : World) (e : Ending) (w' : World) : Prop := ∃ (r : Int) (b : Bool), e = .returned (.tuple #[.int .i64 r, .bool b]) ∧ (b = false ↔ ProgOk ins regs code outs) ∧ Below w.heap.size w w'
def RightP (ins regs : Int) (code : List Ins) (outs : List Int) (w : World) (e : Ending) (w' : World) : Prop := ∃ b : Bool, e = .returned (.bool b) ∧ (b = true ↔ ProgOk ins regs code outs) ∧ Below w.heap.size w w'
theorem rck_no {ins regs r : Int} {code : List Ins} {outs : List Int} {w w' : World} (h : ¬ ProgOk ins regs code outs) (hb : Below w.heap.size w w') : RCheckP ins regs code outs w (.returned (.tuple #[.int .i64 r, .bool true])) w' := ⟨_, _, rfl, ⟨(fun k => by cases k), fun k => absurd k h⟩, hb⟩
theorem rck_yes {ins regs r : Int} {code : List Ins} {outs : List Int} {w w' : World} (h : ProgOk ins regs code outs) (hb : Below w.heap.size w w') : RCheckP ins regs code outs w (.returned (.tuple #[.int .i64 r, .bool false])) w' := ⟨_, _, rfl, ⟨fun _ => h, fun _ => rfl⟩, hb⟩
theorem rri_no {ins regs : Int} {code : List Ins} {outs : List Int} {w w' : World} (h : ¬ ProgOk ins regs code outs) (hb : Below w.heap.size w w') : RightP ins regs code outs w (.returned (.bool false)) w' := ⟨_, rfl, ⟨(fun k => by cases k), fun k => absurd k h⟩, hb⟩
theorem rri_yes {ins regs : Int} {code : List Ins} {outs : List Int} {w w' : World} (h : ProgOk ins regs code outs) (hb : Below w.heap.size w w') : RightP ins regs code outs w (.returned (.bool true)) w' := ⟨_, rfl, ⟨fun _ => h, fun _ => rfl⟩, hb⟩
set_option maxRecDepth 100000 in
set_option maxHeartbeats 8000000 in
theorem rcheck_c (ins regs : Int) (ca oa : Option Addr) (cc oc : Nat) (code : List Ins) (outs : List Int) (w : World) (hc : InsV w ca cc code) (ho : IntsV w oa oc outs) :
    Calls Tryz.prog 39 #[.agg #[.int .i64 ins, .int .i64 regs, .slice ca code.length cc, .slice oa outs.length oc]] w (RCheckP ins regs code outs w) := by
  have hB := Below.refl w.heap.size w
  by_cases h1 : ins < 1
  · have HM := Lib.hid (show ¬ ProgOk ins regs code outs from fun k => by have := k.i1; omega)
    go_enter Tryz.func39, Tryz.ntmps39
    go_wp2
    go_ret2
    refine rck_no HM.out ?_
    repeat (first | exact Below.refl _ _ | exact hB | refine Below.drew ?_ | refine below_drewN ?_ _ | refine bset ?_ (by simp <;> omega) _ | refine bal ?_ _)
  by_cases h2 : regs < ins
  · have HM := Lib.hid (show ¬ ProgOk ins regs code outs from fun k => by have := k.i2; omega)
    go_enter Tryz.func39, Tryz.ntmps39
    go_wp2
    go_ret2
    refine rck_no HM.out ?_
    repeat (first | exact Below.refl _ _ | exact hB | refine Below.drew ?_ | refine below_drewN ?_ _ | refine bset ?_ (by simp <;> omega) _ | refine bal ?_ _)
  by_cases h3 : 128 < regs
  · have HM := Lib.hid (show ¬ ProgOk ins regs code outs from fun k => by have := k.r1; omega)
    go_enter Tryz.func39, Tryz.ntmps39
    go_wp2
    go_ret2
    refine rck_no HM.out ?_
    repeat (first | exact Below.refl _ _ | exact hB | refine Below.drew ?_ | refine below_drewN ?_ _ | refine bset ?_ (by simp <;> omega) _ | refine bal ?_ _)
  by_cases h4 : (16384 : Int) < (code.length : Int)
  · have HM := Lib.hid (show ¬ ProgOk ins regs code outs from fun k => by have := k.c1; omega)
    go_enter Tryz.func39, Tryz.ntmps39
    go_wp2
    go_ret2
    refine rck_no HM.out ?_
    repeat (first | exact Below.refl _ _ | exact hB | refine Below.drew ?_ | refine below_drewN ?_ _ | refine bset ?_ (by simp <;> omega) _ | refine bal ?_ _)
  by_cases h5 : (outs.length : Int) < 1
  · have HM := Lib.hid (show ¬ ProgOk ins regs code outs from fun k => by have := k.o1; omega)
    go_enter Tryz.func39, Tryz.ntmps39
    go_wp2
    go_ret2
    refine rck_no HM.out ?_
    repeat (first | exact Below.refl _ _ | exact hB | refine Below.drew ?_ | refine below_drewN ?_ _ | refine bset ?_ (by simp <;> omega) _ | refine bal ?_ _)
  by_cases h6 : (128 : Int) < (outs.length : Int)
  · have HM := Lib.hid (show ¬ ProgOk ins regs code outs from fun k => by have := k.o2; omega)
    go_enter Tryz.func39, Tryz.ntmps39
    go_wp2
    go_ret2
    refine rck_no HM.out ?_
    repeat (first | exact Below.refl _ _ | exact hB | refine Below.drew ?_ | refine below_drewN ?_ _ | refine bset ?_ (by simp <;> omega) _ | refine bal ?_ _)
  have HH := Lib.hid (And.intro (show 1 ≤ ins ∧ ins ≤ regs ∧ regs ≤ 128 by omega) (show code.length ≤ 16384 ∧ 1 ≤ outs.length ∧ outs.length ≤ 128 by omega))
  go_enter Tryz.func39, Tryz.ntmps39
  go_wp2
  refine wp_name fun w0 hW0 => ?_
  have p0 : w0.cell? ⟨w.heap.size, 0, none⟩ = some (.int .i64 ins) := by rw [hW0]; exact (by first | assumption | exact cell_new (by with_reducible first | rfl | (simp; done) | (simp; omega)) rfl | (repeat (first | assumption | exact cell_new (by with_reducible first | rfl | (simp; done) | (simp; omega)) rfl | refine cell_alloc ?_ _ | refine cell_drew ?_ | refine cell_drewN ?_ _ | refine cell_far ?_ (by simp) _ | (refine cell_far ?_ (by simp <;> omega) _))) | simp [go_sem, *])
  have zp0 := cell_lt p0
  have p1 : w0.cell? ⟨w.heap.size, 1, none⟩ = some (.int .i64 regs) := by rw [hW0]; exact (by first | assumption | exact cell_new (by with_reducible first | rfl | (simp; done) | (simp; omega)) rfl | (repeat (first | assumption | exact cell_new (by with_reducible first | rfl | (simp; done) | (simp; omega)) rfl | refine cell_alloc ?_ _ | refine cell_drew ?_ | refine cell_drewN ?_ _ | refine cell_far ?_ (by simp) _ | (refine cell_far ?_ (by simp <;> omega) _))) | simp [go_sem, *])
  have p2 : w0.cell? ⟨w.heap.size, 2, none⟩ = some (.slice ca code.length cc) := by rw [hW0]; exact (by first | assumption | exact cell_new (by with_reducible first | rfl | (simp; done) | (simp; omega)) rfl | (repeat (first | assumption | exact cell_new (by with_reducible first | rfl | (simp; done) | (simp; omega)) rfl | refine cell_alloc ?_ _ | refine cell_drew ?_ | refine cell_drewN ?_ _ | refine cell_far ?_ (by simp) _ | (refine cell_far ?_ (by simp <;> omega) _))) | simp [go_sem, *])
  have p3 : w0.cell? ⟨w.heap.size, 3, none⟩ = some (.slice oa outs.length oc) := by rw [hW0]; exact (by first | assumption | exact cell_new (by with_reducible first | rfl | (simp; done) | (simp; omega)) rfl | (repeat (first | assumption | exact cell_new (by with_reducible first | rfl | (simp; done) | (simp; omega)) rfl | refine cell_alloc ?_ _ | refine cell_drew ?_ | refine cell_drewN ?_ _ | refine cell_far ?_ (by simp) _ | (refine cell_far ?_ (by simp <;> omega) _))) | simp [go_sem, *])
  have hB : Below w.heap.size w w0 := by rw [hW0]; repeat (first | exact Below.refl _ _ | exact hB | refine Below.drew ?_ | refine below_drewN ?_ _ | refine bset ?_ (by simp <;> omega) _ | refine bal ?_ _)
  have hz : w.heap.size ≤ w0.heap.size := hB.size
  clear hW0
  clear h1 h2 h3 h4 h5 h6
  have HF := Lib.hid (show ∀ W, Below w0.heap.size w0 W → W.cell? ⟨w.heap.size, 1, none⟩ = some (.int .i64 regs) ∧ W.cell? ⟨w.heap.size, 2, none⟩ = some (.slice ca code.length cc) ∧ W.cell? ⟨w.heap.size, 3, none⟩ = some (.slice oa outs.length oc) from fun W h => ⟨bkeep h p1, bkeep h p2, bkeep h p3⟩)
  clear p0 p1 p2 p3
  go_loopw [4] (fun x wr => ∃ k : Nat, k ≤ outs.length ∧ x = .int .i64 k ∧ Below w0.heap.size w0 wr ∧ Hid (∀ j, j < k → 0 ≤ outs.getD j 0 ∧ outs.getD j 0 < regs)) (fun x _ => outs.length - (intOf x).toNat)
  case atStart => exact ⟨0, Nat.zero_le _, rfl, Below.refl _ _, Lib.hid (fun j hj => by omega)⟩
  case round =>
    obtain ⟨k, hk, rfl, hBr, hall⟩ := hrel
    have hk8 : outs.length ≤ 128 := HH.out.2.2.2
    obtain ⟨p1, p2, p3⟩ := HF.out wr hBr
    have zp := cell_lt p1
    have hBB := bthen hB hBr
    by_cases hlt : k < outs.length
    · have hltI : (k : Int) < (outs.length : Int) := by omega
      rcases ho.keep hBB with h0 | ⟨b, off, rfl, hcap, hcell⟩
      · rw [h0] at hlt; simp at hlt
      have q0 := hcell k hlt
      have HK := Lib.hid (show ∀ v, v = outs.getD k 0 → ¬ (0 ≤ v ∧ v < regs) → ¬ ProgOk ins regs code outs from fun v hv h hp => h (by rw [hv]; exact hp.os k hlt))
      have HS := Lib.hid (show ∀ v, v = outs.getD k 0 → (0 ≤ v ∧ v < regs) → ∀ j, j < k + 1 → 0 ≤ outs.getD j 0 ∧ outs.getD j 0 < regs from fun v hv h j hj => by
        by_cases e : j = k
        · subst e; rw [← hv]; exact h
        · exact hall.out j (by omega))
      obtain ⟨r, hr⟩ : ∃ r, r = outs.getD k 0 := ⟨_, rfl⟩
      rw [← hr] at q0
      have HR := Lib.hid hr
      clear hr hcell
      by_cases r1 : r < 0
      · have HM := Lib.hid (HK.out r HR.out (by omega))
        have hq1 : decide (r < 0) = true := by simp; omega
        go_wp2
        go_quiet (fail)
        go_wp2
        go_ret2
        refine rck_no HM.out ?_
        repeat (first | exact Below.refl _ _ | exact hBB | refine Below.drew ?_ | refine below_drewN ?_ _ | refine bset ?_ (by simp <;> omega) _ | refine bal ?_ _)
      by_cases r2 : regs ≤ r
      · have HM := Lib.hid (HK.out r HR.out (by omega))
        have hq1 : decide (r < 0) = false := by simp; omega
        have hq2 : decide (regs ≤ r) = true := by simp; omega
        go_wp2
        go_quiet (fail)
        go_wp2
        go_ret2
        refine rck_no HM.out ?_
        repeat (first | exact Below.refl _ _ | exact hBB | refine Below.drew ?_ | refine below_drewN ?_ _ | refine bset ?_ (by simp <;> omega) _ | refine bal ?_ _)
      have hq1 : decide (r < 0) = false := by simp; omega
      have hq2 : decide (regs ≤ r) = false := by simp; omega
      go_wp2
      go_quiet (fail)
      go_wp2
      exact ⟨⟨k + 1, by omega, by go_num, by repeat (first | exact Below.refl _ _ | exact hBr | refine Below.drew ?_ | refine below_drewN ?_ _ | refine bset ?_ (by simp <;> omega) _ | refine bal ?_ _), Lib.hid (HS.out r HR.out (by omega))⟩, by simp [intOf]; omega⟩
    · obtain rfl : k = outs.length := by omega
      have HO := Lib.hid hall.out
      clear hall hlt hk
      have hBR := hBr
      go_wp2
      clear p1 p2 p3
      go_loopw [5] (fun x wi => ∃ k : Nat, k ≤ code.length ∧ x = .int .i64 k ∧ Below w0.heap.size w0 wi ∧ Hid (∀ j, j < k → mayB (code.getD j default).op (code.getD j default).to (code.getD j default).a (code.getD j default).b (code.getD j default).c regs = true)) (fun x _ => code.length - (intOf x).toNat)
      case atStart => exact ⟨0, Nat.zero_le _, rfl, hBR, Lib.hid (fun j hj => by omega)⟩
      case round =>
        rename World => wi
        obtain ⟨k, hk, rfl, hBi, hall⟩ := hrel
        have hk9 : code.length ≤ 16384 := HH.out.2.1
        have hBB := bthen hB hBi
        obtain ⟨p1, p2, p3⟩ := HF.out wi hBi
        have zp := cell_lt p1
        by_cases hlt : k < code.length
        · have hltI : (k : Int) < (code.length : Int) := by omega
          rcases hc.keep hBB with h0 | ⟨b, off, rfl, hcap, hcell⟩
          · rw [h0] at hlt; simp at hlt
          obtain ⟨q0, q1, q2, q3, q4⟩ := hcell k hlt
          have HK := Lib.hid (show ∀ i : Ins, i = code.getD k default → mayB i.op i.to i.a i.b i.c regs = false → ¬ ProgOk ins regs code outs from fun i hi h hp => by
            have := hp.cs k hlt
            rw [← hi, h] at this; cases this)
          have HS := Lib.hid (show ∀ i : Ins, i = code.getD k default → mayB i.op i.to i.a i.b i.c regs = true → ∀ j, j < k + 1 → mayB (code.getD j default).op (code.getD j default).to (code.getD j default).a (code.getD j default).b (code.getD j default).c regs = true from fun i hi h j hj => by
            by_cases e : j = k
            · subst e; rw [← hi]; exact h
            · exact hall.out j (by omega))
          obtain ⟨i, hi⟩ : ∃ i, i = code.getD k default := ⟨_, rfl⟩
          rw [← hi] at q0 q1 q2 q3 q4
          have HI := Lib.hid hi
          clear hi hcell
          obtain ⟨op, t, ia, ib, ic⟩ := i
          dsimp only at q0 q1 q2 q3 q4
          have hmc := fun W => rmay_c op t ia ib ic regs W
          have hBc := Below.refl wi.heap.size wi
          have HQ := Lib.hid (show ∀ W, Below wi.heap.size wi W → W.cell? ⟨w.heap.size, 1, none⟩ = some (.int .i64 regs) ∧ W.cell? ⟨w.heap.size, 2, none⟩ = some (.slice (some ⟨b, off, none⟩) code.length cc) ∧ W.cell? ⟨b, off + k * 5, none⟩ = some (.int .i64 op) ∧ W.cell? ⟨b, off + k * 5 + 1, none⟩ = some (.int .i64 t) ∧ W.cell? ⟨b, off + k * 5 + 2, none⟩ = some (.int .i64 ia) ∧ W.cell? ⟨b, off + k * 5 + 3, none⟩ = some (.int .i64 ib) ∧ W.cell? ⟨b, off + k * 5 + 4, none⟩ = some (.int .i64 ic) from fun W h => ⟨bkeep h p1, bkeep h p2, bkeep h q0, bkeep h q1, bkeep h q2, bkeep h q3, bkeep h q4⟩)
          obtain ⟨mb, hmb⟩ : ∃ mb, mayB op t ia ib ic regs = mb := ⟨_, rfl⟩
          rw [hmb] at hmc
          have HMB := Lib.hid hmb
          clear hmb
          go_wp2
          go_region_held3 (fun w' => w'.cell? ⟨w.heap.size, 1, none⟩ = some (.int .i64 regs) ∧ w'.cell? ⟨w.heap.size, 2, none⟩ = some (.slice (some ⟨b, off, none⟩) code.length cc) ∧ w'.cell? ⟨b, off + k * 5, none⟩ = some (.int .i64 op) ∧ w'.cell? ⟨b, off + k * 5 + 1, none⟩ = some (.int .i64 t) ∧ w'.cell? ⟨b, off + k * 5 + 2, none⟩ = some (.int .i64 ia) ∧ w'.cell? ⟨b, off + k * 5 + 3, none⟩ = some (.int .i64 ib) ∧ w'.cell? ⟨b, off + k * 5 + 4, none⟩ = some (.int .i64 ic))
            (first | (refine HQ.out _ ?_; (repeat (first | exact Below.refl _ _ | exact hBc | refine Below.drew ?_ | refine below_drewN ?_ _ | refine bset ?_ (by simp <;> omega) _ | refine bal ?_ _)); done) | fail)
            (first
              | (go_at_call 73; refine (hmc _).mono ?_; rintro e w5 ⟨rfl, hb5⟩; have hB5 : Below wi.heap.size wi w5 := bthen (by repeat (first | exact Below.refl _ _ | exact hBc | refine Below.drew ?_ | refine below_drewN ?_ _ | refine bset ?_ (by simp <;> omega) _ | refine bal ?_ _)) hb5; clear hBc; have hBc := hB5)
              | fail)
          cases mb with
          | true =>
            have HSM := Lib.hid (HS.out _ HI.out HMB.out)
            go_wp2
            exact ⟨⟨k + 1, by omega, by go_num, bthen hBi hBc, HSM⟩, by simp [intOf]; omega⟩
          | false =>
            have HM := Lib.hid (HK.out _ HI.out HMB.out)
            have hBz := bthen hBB hBc
            go_wp2
            go_ret2
            refine rck_no HM.out ?_
            repeat (first | exact Below.refl _ _ | exact hBz | refine Below.drew ?_ | refine below_drewN ?_ _ | refine bset ?_ (by simp <;> omega) _ | refine bal ?_ _)
        · obtain rfl : k = code.length := by omega
          have HM := Lib.hid (show ProgOk ins regs code outs from ⟨HH.out.1.1, HH.out.1.2.1, HH.out.1.2.2, HH.out.2.1, HH.out.2.2.1, HH.out.2.2.2, HO.out, hall.out⟩)
          go_wp2
          go_ret2
          exact rck_yes HM.out hBB
/-- may a program be? -/
theorem rright_c (ins regs : Int) (ca oa : Option Addr) (cc oc : Nat) (code : List Ins) (outs : List Int) (w : World) (hc : InsV w ca cc code) (ho : IntsV w oa oc outs) :
    Calls Tryz.prog 12 #[.agg #[.int .i64 ins, .int .i64 regs, .slice ca code.length cc, .slice oa outs.length oc]] w (RightP ins regs code outs w) := by
  have kc := fun W (h : Below w.heap.size w W) => rcheck_c ins regs ca oa cc oc code outs W (hc.keep h) (ho.keep h)
  clear hc ho
  have hB := Below.refl w.heap.size w
  go_enter Tryz.func12, Tryz.ntmps12
  go_wp2_with fail
  refine (kc _ (by repeat (first | exact Below.refl _ _ | exact hB | refine Below.drew ?_ | refine below_drewN ?_ _ | refine bset ?_ (by simp <;> omega) _ | refine bal ?_ _))).mono ?_
  rintro e w1 ⟨r, b, rfl, hb, hb1⟩
  have HBI := Lib.hid hb
  have hB1 : Below w.heap.size w w1 := bthen (by repeat (first | exact Below.refl _ _ | exact hB | refine Below.drew ?_ | refine below_drewN ?_ _ | refine bset ?_ (by simp <;> omega) _ | refine bal ?_ _)) hb1
  clear kc hb
  cases b with
  | true =>
    have HM := Lib.hid (show ¬ ProgOk ins regs code outs from fun h => by have := HBI.out.2 h; cases this)
    go_wp2
    go_ret
    exact rri_no HM.out hB1
  | false =>
    have HM := Lib.hid (HBI.out.1 rfl)
    go_wp2
    go_ret
    exact rri_yes HM.out hB1
end Go.Proofs.YtdllbdfchloijaaGreatDoor

