/- Texts of this seat, laid together: ExB, ExC. Each opens with its own remark, which says what it proves, and under which conditions. -/
import Derived.Test.YtdllbdfchloijaaGreatDoorV13
import Derived.Test.YtdllbdfchloijaaGreatDoorV12
import Derived.Deep.Cut
import Derived.Deep.DeepCutAuto
import Derived.Test.YtdllbdfchloijaaGreatDoorV05
import Derived.Deep.LoopGhost
set_option linter.unusedVariables false
set_option linter.unusedSimpArgs false
/- exact: what an instruction does to numbers (do). -/
namespace Go.Proofs.YtdllbdfchloijaaGreatDoor
open Num
open Go.ChangeShapes Go.WideShapes Go.ChangeAt Go.RowKit
set_option linter.unusedVariables false
set_option linter.unusedSimpArgs false
attribute [local go_sem ↓] Go.wp_at_zero Go.wp_at_succ
theorem ansP_b {z : Option Int} {x : Int} {v : Value} {b : Bool} {w w' : World} (h : (b = true → z = some x) ∧ (b = false → z = none)) (hv : IsInt w' v x) (hb : Below w.heap.size w w') : AnsP z w (.returned (.tuple #[v, .bool b])) w' := by
  cases b with
  | true => exact ansP_some (h.1 rfl) hv hb
  | false => exact ansP_none (h.2 rfl) hv hb
theorem nover_any (va vc : Value) (a c : Int) (k : Nat) (w : World) (hx : IsInt w va a) (hy : IsInt w vc c) (bx : Bd k a) (bY : Bd k c) (hk : k ≤ 17179869184) (h0 : c ≠ 0) :
    Calls Tryz.prog 103 #[va, vc] w fun e w' => (∃ v b x, e = .returned (.tuple #[v, .bool b]) ∧ IsInt w' v x ∧ Hid ((b = true → a % c = 0 ∧ x = a / c) ∧ (b = false → a % c ≠ 0))) ∧ Below w.heap.size w w' := by
  by_cases hd : a % c = 0
  · refine (nover_yes va vc a c k w hx hy bx bY hk h0 hd).mono ?_
    rintro e w' ⟨⟨v, rfl, hv⟩, hb⟩
    exact ⟨⟨v, true, _, rfl, hv, Lib.hid ⟨fun _ => ⟨hd, rfl⟩, fun h => by cases h⟩⟩, hb⟩
  · refine (nover_no va vc a c k w hx hy bx bY hk h0 hd).mono ?_
    rintro e w' ⟨⟨v, x, rfl, hv⟩, hb⟩
    exact ⟨⟨v, false, x, rfl, hv, Lib.hid ⟨(fun h => by cases h), fun _ => hd⟩⟩, hb⟩
/-- how numbers are calculated with -/
def numV : Value := .agg #[.func (.func 101) #[] #[], .func (.func 56) #[] #[], .func (.func 102) #[] #[], .func (.func 57) #[] #[], .func (.func 103) #[] #[]]
theorem numbers_c (w : World) : Calls Tryz.prog 60 #[] w fun e w' => e = .returned numV ∧ Below w.heap.size w w' := by
  have hB := Below.refl w.heap.size w
  go_enter Tryz.func60, Tryz.ntmps60
  go_wp2
  refine bodyPost_ret (v := numV) (by simp [numV, results, Tryz.results60, go_sem, *]) rfl ⟨rfl, ?_⟩
  repeat (first | exact Below.refl _ _ | exact hB | refine Below.drew ?_ | refine below_drewN ?_ _ | refine bset ?_ (by simp <;> omega) _ | refine bal ?_ _)
set_option maxRecDepth 100000 in
set_option maxHeartbeats 16000000 in
theorem doN_c (i : Ins) (k rb n : Nat) (f : Nat → Int) (w : World) (hr : IntsF IsInt w rb 0 n f) (hi : InsOk i n) (hb : ∀ j, j < n → Bd k (f j)) (hk : k ≤ 4294967296) (hn : n ≤ 128) :
    Calls Tryz.prog 100 #[numV, .slice (some ⟨rb, 0, none⟩) n n, i.v] w (AnsP (opI i (f i.a.toNat) (f i.b.toNat)) w) := by
  obtain ⟨o1, o2, t0, t1, a0, a1, b0, b1, hc⟩ := hi
  obtain ⟨op, it, ia, ib, ic⟩ := i
  dsimp only at o1 o2 t0 t1 a0 a1 b0 b1 hc ⊢
  obtain ⟨na, rfl⟩ : ∃ x : Nat, ia = x := ⟨ia.toNat, by omega⟩
  obtain ⟨nb, rfl⟩ : ∃ x : Nat, ib = x := ⟨ib.toNat, by omega⟩
  have a1' : na < n := by omega
  have b1' : nb < n := by omega
  rw [Int.toNat_natCast, Int.toNat_natCast]
  obtain ⟨n1, ad1, l1, c1, x0, x1, hx⟩ := hr.at0 a1'
  obtain ⟨n2, ad2, l2, c2, y0, y1, hy⟩ := hr.at0 b1'
  have bx := hb na a1'
  have bY := hb nb b1'
  obtain ⟨a, haE⟩ : ∃ a, f na = a := ⟨_, rfl⟩
  obtain ⟨b, hbE⟩ : ∃ b, f nb = b := ⟨_, rfl⟩
  rw [haE] at hx bx ⊢
  rw [hbE] at hy bY ⊢
  clear haE hbE hb hr t0 t1 a0 a1 b0 b1
  have HX := Lib.hid hx
  have HY := Lib.hid hy
  have HC := Lib.hid hc
  have HBD := Lib.hid (And.intro bx bY)
  have hga : (na : Int) < (n : Int) := by omega
  have hgb : (nb : Int) < (n : Int) := by omega
  clear hx hy hc bx bY
  have zrb := cell_lt x0
  have hB := Below.refl w.heap.size w
  unfold Ins.v numV
  dsimp only
  go_enter Tryz.func100, Tryz.ntmps100
  go_wp2
  refine wp_name fun w0 hW0 => ?_
  have f0 : w0.cell? ⟨w.heap.size, 0, none⟩ = some (.func (.func 101) #[] #[]) := by rw [hW0]; exact (by first | assumption | exact cell_new (by with_reducible first | rfl | (simp; done) | (simp; omega)) rfl | (repeat (first | assumption | exact cell_new (by with_reducible first | rfl | (simp; done) | (simp; omega)) rfl | refine cell_alloc ?_ _ | refine cell_drew ?_ | refine cell_drewN ?_ _ | refine cell_far ?_ (by simp) _ | (refine cell_far ?_ (by simp <;> omega) _))) | simp [go_sem, *])
  have zf0 := cell_lt f0
  have f1 : w0.cell? ⟨w.heap.size, 1, none⟩ = some (.func (.func 56) #[] #[]) := by rw [hW0]; exact (by first | assumption | exact cell_new (by with_reducible first | rfl | (simp; done) | (simp; omega)) rfl | (repeat (first | assumption | exact cell_new (by with_reducible first | rfl | (simp; done) | (simp; omega)) rfl | refine cell_alloc ?_ _ | refine cell_drew ?_ | refine cell_drewN ?_ _ | refine cell_far ?_ (by simp) _ | (refine cell_far ?_ (by simp <;> omega) _))) | simp [go_sem, *])
  have f2 : w0.cell? ⟨w.heap.size, 2, none⟩ = some (.func (.func 102) #[] #[]) := by rw [hW0]; exact (by first | assumption | exact cell_new (by with_reducible first | rfl | (simp; done) | (simp; omega)) rfl | (repeat (first | assumption | exact cell_new (by with_reducible first | rfl | (simp; done) | (simp; omega)) rfl | refine cell_alloc ?_ _ | refine cell_drew ?_ | refine cell_drewN ?_ _ | refine cell_far ?_ (by simp) _ | (refine cell_far ?_ (by simp <;> omega) _))) | simp [go_sem, *])
  have f3 : w0.cell? ⟨w.heap.size, 3, none⟩ = some (.func (.func 57) #[] #[]) := by rw [hW0]; exact (by first | assumption | exact cell_new (by with_reducible first | rfl | (simp; done) | (simp; omega)) rfl | (repeat (first | assumption | exact cell_new (by with_reducible first | rfl | (simp; done) | (simp; omega)) rfl | refine cell_alloc ?_ _ | refine cell_drew ?_ | refine cell_drewN ?_ _ | refine cell_far ?_ (by simp) _ | (refine cell_far ?_ (by simp <;> omega) _))) | simp [go_sem, *])
  have f4 : w0.cell? ⟨w.heap.size, 4, none⟩ = some (.func (.func 103) #[] #[]) := by rw [hW0]; exact (by first | assumption | exact cell_new (by with_reducible first | rfl | (simp; done) | (simp; omega)) rfl | (repeat (first | assumption | exact cell_new (by with_reducible first | rfl | (simp; done) | (simp; omega)) rfl | refine cell_alloc ?_ _ | refine cell_drew ?_ | refine cell_drewN ?_ _ | refine cell_far ?_ (by simp) _ | (refine cell_far ?_ (by simp <;> omega) _))) | simp [go_sem, *])
  have i0 : w0.cell? ⟨w.heap.size + 1, 0, none⟩ = some (.int .i64 op) := by rw [hW0]; exact (by first | assumption | exact cell_new (by with_reducible first | rfl | (simp; done) | (simp; omega)) rfl | (repeat (first | assumption | exact cell_new (by with_reducible first | rfl | (simp; done) | (simp; omega)) rfl | refine cell_alloc ?_ _ | refine cell_drew ?_ | refine cell_drewN ?_ _ | refine cell_far ?_ (by simp) _ | (refine cell_far ?_ (by simp <;> omega) _))) | simp [go_sem, *])
  have zi0 := cell_lt i0
  have i2 : w0.cell? ⟨w.heap.size + 1, 2, none⟩ = some (.int .i64 na) := by rw [hW0]; exact (by first | assumption | exact cell_new (by with_reducible first | rfl | (simp; done) | (simp; omega)) rfl | (repeat (first | assumption | exact cell_new (by with_reducible first | rfl | (simp; done) | (simp; omega)) rfl | refine cell_alloc ?_ _ | refine cell_drew ?_ | refine cell_drewN ?_ _ | refine cell_far ?_ (by simp) _ | (refine cell_far ?_ (by simp <;> omega) _))) | simp [go_sem, *])
  have i3 : w0.cell? ⟨w.heap.size + 1, 3, none⟩ = some (.int .i64 nb) := by rw [hW0]; exact (by first | assumption | exact cell_new (by with_reducible first | rfl | (simp; done) | (simp; omega)) rfl | (repeat (first | assumption | exact cell_new (by with_reducible first | rfl | (simp; done) | (simp; omega)) rfl | refine cell_alloc ?_ _ | refine cell_drew ?_ | refine cell_drewN ?_ _ | refine cell_far ?_ (by simp) _ | (refine cell_far ?_ (by simp <;> omega) _))) | simp [go_sem, *])
  have i4 : w0.cell? ⟨w.heap.size + 1, 4, none⟩ = some (.int .i64 ic) := by rw [hW0]; exact (by first | assumption | exact cell_new (by with_reducible first | rfl | (simp; done) | (simp; omega)) rfl | (repeat (first | assumption | exact cell_new (by with_reducible first | rfl | (simp; done) | (simp; omega)) rfl | refine cell_alloc ?_ _ | refine cell_drew ?_ | refine cell_drewN ?_ _ | refine cell_far ?_ (by simp) _ | (refine cell_far ?_ (by simp <;> omega) _))) | simp [go_sem, *])
  have r0f : w0.frozen? ⟨w.heap.size + 2, 0, none⟩ = false := by rw [hW0]; simp [go_sem, *]
  have r0 : w0.cell? ⟨w.heap.size + 2, 0, none⟩ = some (.bool false) := by rw [hW0]; exact (by first | assumption | exact cell_new (by with_reducible first | rfl | (simp; done) | (simp; omega)) rfl | (repeat (first | assumption | exact cell_new (by with_reducible first | rfl | (simp; done) | (simp; omega)) rfl | refine cell_alloc ?_ _ | refine cell_drew ?_ | refine cell_drewN ?_ _ | refine cell_far ?_ (by simp) _ | (refine cell_far ?_ (by simp <;> omega) _))) | simp [go_sem, *])
  have zr0 := cell_lt r0
  have r1f : w0.frozen? ⟨w.heap.size + 2, 1, none⟩ = false := by rw [hW0]; simp [go_sem, *]
  have r1 : w0.cell? ⟨w.heap.size + 2, 1, none⟩ = some (.slice none 0 0) := by rw [hW0]; exact (by first | assumption | exact cell_new (by with_reducible first | rfl | (simp; done) | (simp; omega)) rfl | (repeat (first | assumption | exact cell_new (by with_reducible first | rfl | (simp; done) | (simp; omega)) rfl | refine cell_alloc ?_ _ | refine cell_drew ?_ | refine cell_drewN ?_ _ | refine cell_far ?_ (by simp) _ | (refine cell_far ?_ (by simp <;> omega) _))) | simp [go_sem, *])
  have hB : Below w.heap.size w w0 := by rw [hW0]; repeat (first | exact Below.refl _ _ | exact hB | refine Below.drew ?_ | refine below_drewN ?_ _ | refine bset ?_ (by simp <;> omega) _ | refine bal ?_ _)
  have hz : w.heap.size ≤ w0.heap.size := hB.size
  clear hW0
  have HS := Lib.hid (show ∀ W, Below w0.heap.size w0 W → W.cell? ⟨w.heap.size + 1, 2, none⟩ = some (.int .i64 na) ∧ W.cell? ⟨w.heap.size + 1, 3, none⟩ = some (.int .i64 nb) ∧ W.cell? ⟨rb, na * 2, none⟩ = some (.bool n1) ∧ W.cell? ⟨rb, na * 2 + 1, none⟩ = some (.slice ad1 l1 c1) ∧ W.cell? ⟨rb, nb * 2, none⟩ = some (.bool n2) ∧ W.cell? ⟨rb, nb * 2 + 1, none⟩ = some (.slice ad2 l2 c2) from fun W h => ⟨bkeep h i2, bkeep h i3, bkeep (bthen hB h) x0, bkeep (bthen hB h) x1, bkeep (bthen hB h) y0, bkeep (bthen hB h) y1⟩)
  have HP := Lib.hid (show ∀ W, Below w0.heap.size w0 W → (W.cell? ⟨w.heap.size, 0, none⟩ = some (.func (.func 101) #[] #[]) ∧ W.cell? ⟨w.heap.size, 1, none⟩ = some (.func (.func 56) #[] #[]) ∧ W.cell? ⟨w.heap.size, 2, none⟩ = some (.func (.func 102) #[] #[]) ∧ W.cell? ⟨w.heap.size, 3, none⟩ = some (.func (.func 57) #[] #[]) ∧ W.cell? ⟨w.heap.size, 4, none⟩ = some (.func (.func 103) #[] #[])) ∧ W.cell? ⟨w.heap.size + 1, 0, none⟩ = some (.int .i64 op) ∧ W.cell? ⟨w.heap.size + 1, 4, none⟩ = some (.int .i64 ic) ∧ W.cell? ⟨w.heap.size + 2, 0, none⟩ = some (.bool false) ∧ W.cell? ⟨w.heap.size + 2, 1, none⟩ = some (.slice none 0 0) ∧ W.frozen? ⟨w.heap.size + 2, 0, none⟩ = false ∧ W.frozen? ⟨w.heap.size + 2, 1, none⟩ = false from fun W h => ⟨⟨bkeep h f0, bkeep h f1, bkeep h f2, bkeep h f3, bkeep h f4⟩, bkeep h i0, bkeep h i4, bkeep h r0, bkeep h r1, bkeepf h r0 r0f, bkeepf h r1 r1f⟩)
  have zrb0 : rb < w0.heap.size := by omega
  have zi0 : w.heap.size + 1 < w0.heap.size := zi0
  have hBw := Below.refl w0.heap.size w0
  clear f0 f1 f2 f3 f4 i0 i2 i3 i4 r0 r1 r0f r1f x0 x1 y0 y1
  go_cut [8, 9] (fun p q wx => ∃ g h : Nat, p = .pointer (some ⟨g, 0, none⟩) ∧ q = .pointer (some ⟨h, 0, none⟩) ∧ wx.cell? ⟨g, 0, none⟩ = some (.bool n1) ∧ wx.cell? ⟨g, 1, none⟩ = some (.slice ad1 l1 c1) ∧ wx.cell? ⟨h, 0, none⟩ = some (.bool n2) ∧ wx.cell? ⟨h, 1, none⟩ = some (.slice ad2 l2 c2) ∧ Below w0.heap.size w0 wx)
  case first =>
    go_region_held3 (fun w' => w'.cell? ⟨w.heap.size + 1, 2, none⟩ = some (.int .i64 na) ∧ w'.cell? ⟨w.heap.size + 1, 3, none⟩ = some (.int .i64 nb) ∧ w'.cell? ⟨rb, na * 2, none⟩ = some (.bool n1) ∧ w'.cell? ⟨rb, na * 2 + 1, none⟩ = some (.slice ad1 l1 c1) ∧ w'.cell? ⟨rb, nb * 2, none⟩ = some (.bool n2) ∧ w'.cell? ⟨rb, nb * 2 + 1, none⟩ = some (.slice ad2 l2 c2))
      (first | (refine HS.out _ ?_; (repeat (first | exact Below.refl _ _ | exact hBw | refine Below.drew ?_ | refine below_drewN ?_ _ | refine bset ?_ (by simp <;> omega) _ | refine bal ?_ _)); done) | fail)
      (fail)
    all_goals
      go_wp2_with fail
      go_meet
      refine ⟨_, _, rfl, rfl, ?_, ?_, ?_, ?_, ?_⟩
      · repeat (first | (refine cell_new ?_ rfl; first | (with_reducible rfl) | (simp only [World.size_alloc]; done)) | (with_reducible refine cell_drew ?_) | (with_reducible refine cell_alloc ?_ _))
      · repeat (first | (refine cell_new ?_ rfl; first | (with_reducible rfl) | (simp only [World.size_alloc]; done)) | (with_reducible refine cell_drew ?_) | (with_reducible refine cell_alloc ?_ _))
      · repeat (first | (refine cell_new ?_ rfl; first | (with_reducible rfl) | (simp only [World.size_alloc]; done)) | (with_reducible refine cell_drew ?_) | (with_reducible refine cell_alloc ?_ _))
      · repeat (first | (refine cell_new ?_ rfl; first | (with_reducible rfl) | (simp only [World.size_alloc]; done)) | (with_reducible refine cell_drew ?_) | (with_reducible refine cell_alloc ?_ _))
      ·
        repeat (first | exact Below.refl _ _ | exact hBw | refine Below.drew ?_ | refine below_drewN ?_ _ | refine bset ?_ (by simp <;> omega) _ | refine bal ?_ _)
  case rest =>
    obtain ⟨g, h, rfl, rfl, g0, g1, h0, h1, hbc⟩ := hcut
    obtain ⟨⟨f0, f1, f2, f3, f4⟩, i0, i4, r0, r1, r0f, r1f⟩ := HP.out wc hbc
    have hBc := bthen hB hbc
    have HXC := Lib.hid (HX.out.keep hBc)
    have HYC := Lib.hid (HY.out.keep hBc)
    have zg := cell_lt g0
    have zh := cell_lt h0
    have zr := cell_lt r0
    have hBw := Below.refl wc.heap.size wc
    clear hbc HS HP
    have nx := fun W (k : Below wc.heap.size wc W) => neg_c _ a W (HXC.out.keep k)
    have ax := fun W (q : Below wc.heap.size wc W) => addI_c _ _ a b k W (HXC.out.keep q) (HYC.out.keep q) HBD.out.1 HBD.out.2 (by omega)
    have sx := fun W (q : Below wc.heap.size wc W) => subI_c _ _ a b k W (HXC.out.keep q) (HYC.out.keep q) HBD.out.1 HBD.out.2 (by omega)
    have hop : op = 1 ∨ op = 2 ∨ op = 3 ∨ op = 4 ∨ op = 5 ∨ op = 6 ∨ op = 7 ∨ op = 8 := by omega
    clear o1 o2
    rcases hop with rfl | rfl | rfl | rfl | rfl | rfl | rfl | rfl
    · go_wp2
      refine bodyPost_ret (v := .tuple #[.agg #[.bool n1, .slice ad1 l1 c1], .bool true]) (by simp [results, Tryz.results100, go_sem, *]) rfl (ansP_some (by simp [opI]) (HXC.out.put2 r0 r1 _ _) ?_)
      repeat (first | exact Below.refl _ _ | exact hBc | refine Below.drew ?_ | refine below_drewN ?_ _ | refine bset ?_ (by simp <;> omega) _ | refine bal ?_ _)
    ·
      go_wp2_with fail
      refine (nx _ (by repeat (first | exact Below.refl _ _ | exact hBw | refine Below.drew ?_ | refine below_drewN ?_ _ | refine bset ?_ (by simp <;> omega) _ | refine bal ?_ _))).mono ?_
      rintro e w9 ⟨⟨v9, rfl, hi9⟩, hb9⟩
      have hB9 : Below wc.heap.size wc w9 := bthen (by repeat (first | exact Below.refl _ _ | exact hBw | refine Below.drew ?_ | refine below_drewN ?_ _ | refine bset ?_ (by simp <;> omega) _ | refine bal ?_ _)) hb9
      have HI9 := Lib.hid hi9
      obtain ⟨n9, a9, c9, l9, rfl, -⟩ := hi9
      unfold iv at *
      have r09f := bkeepf hB9 r0 r0f
      have r19f := bkeepf hB9 r1 r1f
      have r09 := bkeep hB9 r0
      have r19 := bkeep hB9 r1
      go_wp2
      refine bodyPost_ret (v := .tuple #[.agg #[.bool n9, .slice a9 l9.length c9], .bool true]) (by simp [results, Tryz.results100, go_sem, *]) rfl (ansP_some (by simp [opI]) (HI9.out.put2 r09 r19 _ _) ?_)
      have hB99 := bthen hBc hB9
      repeat (first | exact Below.refl _ _ | exact hB99 | refine Below.drew ?_ | refine below_drewN ?_ _ | refine bset ?_ (by simp <;> omega) _ | refine bal ?_ _)
    ·
      go_wp2_with fail
      refine (ax _ (by repeat (first | exact Below.refl _ _ | exact hBw | refine Below.drew ?_ | refine below_drewN ?_ _ | refine bset ?_ (by simp <;> omega) _ | refine bal ?_ _))).mono ?_
      rintro e w9 ⟨⟨v9, rfl, hi9⟩, hb9⟩
      have hB9 : Below wc.heap.size wc w9 := bthen (by repeat (first | exact Below.refl _ _ | exact hBw | refine Below.drew ?_ | refine below_drewN ?_ _ | refine bset ?_ (by simp <;> omega) _ | refine bal ?_ _)) hb9
      have HI9 := Lib.hid hi9
      obtain ⟨n9, a9, c9, l9, rfl, -⟩ := hi9
      unfold iv at *
      have r09f := bkeepf hB9 r0 r0f
      have r19f := bkeepf hB9 r1 r1f
      have r09 := bkeep hB9 r0
      have r19 := bkeep hB9 r1
      go_wp2
      refine bodyPost_ret (v := .tuple #[.agg #[.bool n9, .slice a9 l9.length c9], .bool true]) (by simp [results, Tryz.results100, go_sem, *]) rfl (ansP_some (by simp [opI]) (HI9.out.put2 r09 r19 _ _) ?_)
      have hB99 := bthen hBc hB9
      repeat (first | exact Below.refl _ _ | exact hB99 | refine Below.drew ?_ | refine below_drewN ?_ _ | refine bset ?_ (by simp <;> omega) _ | refine bal ?_ _)
    ·
      go_wp2_with fail
      refine (sx _ (by repeat (first | exact Below.refl _ _ | exact hBw | refine Below.drew ?_ | refine below_drewN ?_ _ | refine bset ?_ (by simp <;> omega) _ | refine bal ?_ _))).mono ?_
      rintro e w9 ⟨⟨v9, rfl, hi9⟩, hb9⟩
      have hB9 : Below wc.heap.size wc w9 := bthen (by repeat (first | exact Below.refl _ _ | exact hBw | refine Below.drew ?_ | refine below_drewN ?_ _ | refine bset ?_ (by simp <;> omega) _ | refine bal ?_ _)) hb9
      have HI9 := Lib.hid hi9
      obtain ⟨n9, a9, c9, l9, rfl, -⟩ := hi9
      unfold iv at *
      have r09f := bkeepf hB9 r0 r0f
      have r19f := bkeepf hB9 r1 r1f
      have r09 := bkeep hB9 r0
      have r19 := bkeep hB9 r1
      go_wp2
      refine bodyPost_ret (v := .tuple #[.agg #[.bool n9, .slice a9 l9.length c9], .bool true]) (by simp [results, Tryz.results100, go_sem, *]) rfl (ansP_some (by simp [opI]) (HI9.out.put2 r09 r19 _ _) ?_)
      have hB99 := bthen hBc hB9
      repeat (first | exact Below.refl _ _ | exact hB99 | refine Below.drew ?_ | refine below_drewN ?_ _ | refine bset ?_ (by simp <;> omega) _ | refine bal ?_ _)
    · rw [constB_mul (.inl rfl)] at HC
      have hc := of_decide_eq_true HC.out
      clear nx ax sx f0 f1 f2 h0 h1 zh zrb0 zi0 zrb hga hgb a1' b1'
      have oc := fun W => of_c ic W (by omega) (by omega)
      have mc := fun vz W (q : Below wc.heap.size wc W) (hz : IsInt W vz ic) => mul_c _ vz a ic k 10 W (HXC.out.keep q) hz HBD.out.1 (const_bd hc.2.1 hc.2.2 (Nat.le_refl _)) (by omega) (by omega)
      go_wp2
      go_region_law (go_simp; go_wp2_with (first
        | (go_at_call 49; refine (oc _).mono ?_; rintro e w5 ⟨⟨v5, rfl, hi5⟩, hb5⟩; have hB5 : Below wc.heap.size wc w5 := bthen (by repeat (first | exact Below.refl _ _ | exact hBw | refine Below.drew ?_ | refine below_drewN ?_ _ | refine bset ?_ (by simp <;> omega) _ | refine bal ?_ _)) hb5; have HI5 := Lib.hid hi5; have f35 := bkeep hB5 f3; have f45 := bkeep hB5 f4; have g05 := bkeep hB5 g0; have g15 := bkeep hB5 g1; obtain ⟨n5, a5, c5, l5, rfl, -⟩ := hi5; unfold iv at *)
        | (go_at_call 57; refine (mc _ _ ?_ ?_).mono ?_; (repeat (first | exact Below.refl _ _ | exact hB5 | refine Below.drew ?_ | refine below_drewN ?_ _ | refine bset ?_ (by simp <;> omega) _ | refine bal ?_ _)); (refine HI5.out.keep ?_; have hBz := Below.refl w5.heap.size w5; (repeat (first | exact Below.refl _ _ | exact hBz | refine Below.drew ?_ | refine below_drewN ?_ _ | refine bset ?_ (by simp <;> omega) _ | refine bal ?_ _))); rintro e w9 ⟨⟨v9, rfl, hi9⟩, hb9⟩; have hB9 : Below wc.heap.size wc w9 := bthen (by repeat (first | exact Below.refl _ _ | exact hB5 | refine Below.drew ?_ | refine below_drewN ?_ _ | refine bset ?_ (by simp <;> omega) _ | refine bal ?_ _)) hb9; have r09 := bkeep hB9 r0; have r19 := bkeep hB9 r1; have r09f := bkeepf hB9 r0 r0f; have r19f := bkeepf hB9 r1 r1f; have HI9 := Lib.hid hi9; obtain ⟨n9, a9, c9, l9, rfl, -⟩ := hi9; unfold iv at *)))
      all_goals
        clear oc mc
        go_wp2
        refine bodyPost_ret (v := .tuple #[.agg #[.bool n9, .slice a9 l9.length c9], .bool true]) (by simp [results, Tryz.results100, go_sem, *]) rfl ?_
        have hB99 := bthen hBc hB9
      all_goals
        refine ansP_some (by simp [opI]) (HI9.out.put2 r09 r19 _ _) ?_
        repeat (first | exact Below.refl _ _ | exact hB99 | refine Below.drew ?_ | refine below_drewN ?_ _ | refine bset ?_ (by simp <;> omega) _ | refine bal ?_ _)
    · rw [constB_mul (.inr rfl)] at HC
      have hc := of_decide_eq_true HC.out
      clear nx ax sx f0 f1 f2 h0 h1 zh zrb0 zi0 zrb hga hgb a1' b1'
      have oc := fun W => of_c ic W (by omega) (by omega)
      have mc := fun vz W (q : Below wc.heap.size wc W) (hz : IsInt W vz ic) => nover_any _ vz a ic (k + 65) W (HXC.out.keep q) hz (HBD.out.1.mono (by omega)) (const_bd hc.2.1 hc.2.2 (by omega)) (by omega) hc.1
      go_wp2
      go_region_law (go_simp; go_wp2_with (first
        | (go_at_call 49; refine (oc _).mono ?_; rintro e w5 ⟨⟨v5, rfl, hi5⟩, hb5⟩; have hB5 : Below wc.heap.size wc w5 := bthen (by repeat (first | exact Below.refl _ _ | exact hBw | refine Below.drew ?_ | refine below_drewN ?_ _ | refine bset ?_ (by simp <;> omega) _ | refine bal ?_ _)) hb5; have HI5 := Lib.hid hi5; have f35 := bkeep hB5 f3; have f45 := bkeep hB5 f4; have g05 := bkeep hB5 g0; have g15 := bkeep hB5 g1; obtain ⟨n5, a5, c5, l5, rfl, -⟩ := hi5; unfold iv at *)
        | (go_at_call 103; refine (mc _ _ ?_ ?_).mono ?_; (repeat (first | exact Below.refl _ _ | exact hB5 | refine Below.drew ?_ | refine below_drewN ?_ _ | refine bset ?_ (by simp <;> omega) _ | refine bal ?_ _)); (refine HI5.out.keep ?_; have hBz := Below.refl w5.heap.size w5; (repeat (first | exact Below.refl _ _ | exact hBz | refine Below.drew ?_ | refine below_drewN ?_ _ | refine bset ?_ (by simp <;> omega) _ | refine bal ?_ _))); rintro e w9 ⟨⟨v9, b9, x9, rfl, hi9, HB9⟩, hb9⟩; have hB9 : Below wc.heap.size wc w9 := bthen (by repeat (first | exact Below.refl _ _ | exact hB5 | refine Below.drew ?_ | refine below_drewN ?_ _ | refine bset ?_ (by simp <;> omega) _ | refine bal ?_ _)) hb9; have r09 := bkeep hB9 r0; have r19 := bkeep hB9 r1; have r09f := bkeepf hB9 r0 r0f; have r19f := bkeepf hB9 r1 r1f; have HI9 := Lib.hid hi9; obtain ⟨n9, a9, c9, l9, rfl, -⟩ := hi9; unfold iv at *)))
      all_goals
        clear oc mc
        go_wp2
        refine bodyPost_ret (v := .tuple #[.agg #[.bool n9, .slice a9 l9.length c9], .bool b9]) (by simp [results, Tryz.results100, go_sem, *]) rfl ?_
        have hB99 := bthen hBc hB9
      all_goals
        refine ansP_b ⟨fun h => ?_, fun h => ?_⟩ (HI9.out.put2 r09 r19 _ _) ?_
        · simp [opI, (HB9.out.1 h).1, (HB9.out.1 h).2]
        · simp [opI, HB9.out.2 h]
        ·
          repeat (first | exact Below.refl _ _ | exact hB99 | refine Below.drew ?_ | refine below_drewN ?_ _ | refine bset ?_ (by simp <;> omega) _ | refine bal ?_ _)
    · rw [constB_shift (.inl rfl)] at HC
      have hc := of_decide_eq_true HC.out
      obtain ⟨m, rfl⟩ : ∃ m : Nat, ic = m := ⟨ic.toNat, by omega⟩
      clear nx ax sx f0 f1 f2 h0 h1 zh zrb0 zi0 zrb hga hgb a1' b1'
      have oc := fun W => power_c m W (by omega)
      have mc := fun vz W (q : Below wc.heap.size wc W) (hz : IsInt W vz (2 ^ m)) => mul_c _ vz a (2 ^ m) k 65 W (HXC.out.keep q) hz HBD.out.1 (pow2_bd (by omega)) (by omega) (by omega)
      go_wp2
      go_region_law (go_simp; go_wp2_with (first
        | (go_at_call 138; refine (oc _).mono ?_; rintro e w5 ⟨⟨v5, rfl, hi5⟩, hb5⟩; have hB5 : Below wc.heap.size wc w5 := bthen (by repeat (first | exact Below.refl _ _ | exact hBw | refine Below.drew ?_ | refine below_drewN ?_ _ | refine bset ?_ (by simp <;> omega) _ | refine bal ?_ _)) hb5; have HI5 := Lib.hid hi5; have f35 := bkeep hB5 f3; have f45 := bkeep hB5 f4; have g05 := bkeep hB5 g0; have g15 := bkeep hB5 g1; obtain ⟨n5, a5, c5, l5, rfl, -⟩ := hi5; unfold iv at *)
        | (go_at_call 57; refine (mc _ _ ?_ ?_).mono ?_; (repeat (first | exact Below.refl _ _ | exact hB5 | refine Below.drew ?_ | refine below_drewN ?_ _ | refine bset ?_ (by simp <;> omega) _ | refine bal ?_ _)); (refine HI5.out.keep ?_; have hBz := Below.refl w5.heap.size w5; (repeat (first | exact Below.refl _ _ | exact hBz | refine Below.drew ?_ | refine below_drewN ?_ _ | refine bset ?_ (by simp <;> omega) _ | refine bal ?_ _))); rintro e w9 ⟨⟨v9, rfl, hi9⟩, hb9⟩; have hB9 : Below wc.heap.size wc w9 := bthen (by repeat (first | exact Below.refl _ _ | exact hB5 | refine Below.drew ?_ | refine below_drewN ?_ _ | refine bset ?_ (by simp <;> omega) _ | refine bal ?_ _)) hb9; have r09 := bkeep hB9 r0; have r19 := bkeep hB9 r1; have r09f := bkeepf hB9 r0 r0f; have r19f := bkeepf hB9 r1 r1f; have HI9 := Lib.hid hi9; obtain ⟨n9, a9, c9, l9, rfl, -⟩ := hi9; unfold iv at *)))
      all_goals
        clear oc mc
        go_wp2
        refine bodyPost_ret (v := .tuple #[.agg #[.bool n9, .slice a9 l9.length c9], .bool true]) (by simp [results, Tryz.results100, go_sem, *]) rfl ?_
        have hB99 := bthen hBc hB9
      all_goals
        refine ansP_some (by simp [opI]) (HI9.out.put2 r09 r19 _ _) ?_
        repeat (first | exact Below.refl _ _ | exact hB99 | refine Below.drew ?_ | refine below_drewN ?_ _ | refine bset ?_ (by simp <;> omega) _ | refine bal ?_ _)
    · rw [constB_shift (.inr rfl)] at HC
      have hc := of_decide_eq_true HC.out
      obtain ⟨m, rfl⟩ : ∃ m : Nat, ic = m := ⟨ic.toNat, by omega⟩
      clear nx ax sx f0 f1 f2 h0 h1 zh zrb0 zi0 zrb hga hgb a1' b1'
      have oc := fun W => power_c m W (by omega)
      have mc := fun vz W (q : Below wc.heap.size wc W) (hz : IsInt W vz (2 ^ m)) => nover_any _ vz a (2 ^ m) (k + 65) W (HXC.out.keep q) hz (HBD.out.1.mono (by omega)) (pow2_bd (by omega)) (by omega) (p2_ne m)
      go_wp2
      go_region_law (go_simp; go_wp2_with (first
        | (go_at_call 138; refine (oc _).mono ?_; rintro e w5 ⟨⟨v5, rfl, hi5⟩, hb5⟩; have hB5 : Below wc.heap.size wc w5 := bthen (by repeat (first | exact Below.refl _ _ | exact hBw | refine Below.drew ?_ | refine below_drewN ?_ _ | refine bset ?_ (by simp <;> omega) _ | refine bal ?_ _)) hb5; have HI5 := Lib.hid hi5; have f35 := bkeep hB5 f3; have f45 := bkeep hB5 f4; have g05 := bkeep hB5 g0; have g15 := bkeep hB5 g1; obtain ⟨n5, a5, c5, l5, rfl, -⟩ := hi5; unfold iv at *)
        | (go_at_call 103; refine (mc _ _ ?_ ?_).mono ?_; (repeat (first | exact Below.refl _ _ | exact hB5 | refine Below.drew ?_ | refine below_drewN ?_ _ | refine bset ?_ (by simp <;> omega) _ | refine bal ?_ _)); (refine HI5.out.keep ?_; have hBz := Below.refl w5.heap.size w5; (repeat (first | exact Below.refl _ _ | exact hBz | refine Below.drew ?_ | refine below_drewN ?_ _ | refine bset ?_ (by simp <;> omega) _ | refine bal ?_ _))); rintro e w9 ⟨⟨v9, b9, x9, rfl, hi9, HB9⟩, hb9⟩; have hB9 : Below wc.heap.size wc w9 := bthen (by repeat (first | exact Below.refl _ _ | exact hB5 | refine Below.drew ?_ | refine below_drewN ?_ _ | refine bset ?_ (by simp <;> omega) _ | refine bal ?_ _)) hb9; have r09 := bkeep hB9 r0; have r19 := bkeep hB9 r1; have r09f := bkeepf hB9 r0 r0f; have r19f := bkeepf hB9 r1 r1f; have HI9 := Lib.hid hi9; obtain ⟨n9, a9, c9, l9, rfl, -⟩ := hi9; unfold iv at *)))
      all_goals
        clear oc mc
        go_wp2
        refine bodyPost_ret (v := .tuple #[.agg #[.bool n9, .slice a9 l9.length c9], .bool b9]) (by simp [results, Tryz.results100, go_sem, *]) rfl ?_
        have hB99 := bthen hBc hB9
      all_goals
        refine ansP_b ⟨fun h => ?_, fun h => ?_⟩ (HI9.out.put2 r09 r19 _ _) ?_
        · simp [opI, (HB9.out.1 h).1, (HB9.out.1 h).2]
        · simp [opI, HB9.out.2 h]
        ·
          repeat (first | exact Below.refl _ _ | exact hB99 | refine Below.drew ?_ | refine below_drewN ?_ _ | refine bset ?_ (by simp <;> omega) _ | refine bal ?_ _)
end Go.Proofs.YtdllbdfchloijaaGreatDoor

/- exact: run on numbers. -/
namespace Go.Proofs.YtdllbdfchloijaaGreatDoor
open Num
open Go.ChangeShapes Go.WideShapes Go.ChangeAt Go.RowKit
set_option linter.unusedVariables false
set_option linter.unusedSimpArgs false
attribute [local go_sem ↓] Go.wp_at_zero Go.wp_at_succ
/-- a function value that is told of each instruction's number, and goes on -/
def FnT (F : Nat) (caps : Array Value) : Prop :=
  ∀ W v x (k : Int), IsInt W v x → Calls Tryz.prog F (#[.int .i64 k, v] ++ caps) W fun e w' => e = .returned (.bool true) ∧ Below W.heap.size W w'
theorem told_c : FnT 61 #[] := fun W v x k hv => by
  obtain ⟨n1, a1, c1, l1, rfl, -⟩ := hv
  unfold iv
  have hB := Below.refl W.heap.size W
  show Calls Tryz.prog 61 #[.int .i64 k, .agg #[.bool n1, .slice a1 l1.length c1]] W _
  go_enter Tryz.func61, Tryz.ntmps61
  go_wp2
  go_ret
  exact ⟨rfl, by repeat (first | exact Below.refl _ _ | exact hB | refine Below.drew ?_ | refine below_drewN ?_ _ | refine bset ?_ (by simp <;> omega) _ | refine bal ?_ _)⟩
/-- what run answers -/
def RunNPost (code : List Ins) (r : List Int) (rb : Nat) (w : World) (e : Ending) (w' : World) : Prop :=
  ((∃ (m : Nat) (s : List Int), m < code.length ∧ afterN code r m = some s ∧ afterN code r (m + 1) = none ∧ e = .returned (.int .i64 m)) ∨
   (∃ s, afterN code r code.length = some s ∧ e = .returned (.int .i64 (-1)) ∧ IntsF IsInt w' rb 0 r.length (fun j => s.getD j 0) ∧ typOf w' rb = some 50)) ∧ Out (fun k => k = rb) w w'
set_option maxRecDepth 100000 in
set_option maxHeartbeats 16000000 in
theorem runN_c (ins regs : Int) (ca oa : Option Addr) (cc ol oc : Nat) (code : List Ins) (r : List Int) (K rb F : Nat) (caps : Array Value) (w : World) (hc : InsV w ca cc code) (hcs : ∀ n, n < code.length → InsOk (code.getD n default) r.length) (hcl : code.length ≤ 16384) (hCs : Cs code) (hr128 : r.length ≤ 128)
    (hI : IntsF IsInt w rb 0 r.length (fun j => r.getD j 0)) (hF : Free w rb) (hT : typOf w rb = some 50) (hb : ∀ j, Bd K (r.getD j 0)) (hK : K ≤ 2147483648) (hft : FnT F caps) (eF : Enters Tryz.prog F) (hne : ∀ b off, ca = some ⟨b, off, none⟩ → 0 < code.length → b ≠ rb) :
    Calls Tryz.prog 59 #[numV, .agg #[.int .i64 ins, .int .i64 regs, .slice ca code.length cc, .slice oa ol oc], .slice (some ⟨rb, 0, none⟩) r.length r.length, .func (.func F) #[] caps] w (RunNPost code r rb w) := by
  have HC := Lib.hid hc
  have HCS := Lib.hid hcs
  have HCs := Lib.hid hCs
  have HBD := Lib.hid hb
  have HFT := Lib.hid hft
  have HNE := Lib.hid hne
  have HI := Lib.hid (And.intro hI (And.intro hF hT))
  have zrb := hF.1
  clear hc hcs hCs hb hft hI hF hT hne
  unfold Enters at eF
  have hB := Below.refl w.heap.size w
  unfold numV
  obtain ⟨R, hR⟩ : ∃ R, r.length = R := ⟨_, rfl⟩
  rw [hR] at HI HCS hr128 ⊢
  have HR := Lib.hid hR
  clear hR
  go_enter Tryz.func59, Tryz.ntmps59
  go_wp2
  go_step3
  go_wp2
  go_step3
  go_wp2
  refine wp_name fun w0 hW0 => ?_
  have f0 : w0.cell? ⟨w.heap.size, 0, none⟩ = some (.func (.func 101) #[] #[]) := by rw [hW0]; exact (by first | assumption | exact cell_new (by with_reducible first | rfl | (simp; done) | (simp; omega)) rfl | (repeat (first | assumption | exact cell_new (by with_reducible first | rfl | (simp; done) | (simp; omega)) rfl | refine cell_alloc ?_ _ | refine cell_drew ?_ | refine cell_drewN ?_ _ | refine cell_far ?_ (by simp) _ | (refine cell_far ?_ (by simp <;> omega) _))) | simp [go_sem, *])
  have zf0 := cell_lt f0
  have f1 : w0.cell? ⟨w.heap.size, 1, none⟩ = some (.func (.func 56) #[] #[]) := by rw [hW0]; exact (by first | assumption | exact cell_new (by with_reducible first | rfl | (simp; done) | (simp; omega)) rfl | (repeat (first | assumption | exact cell_new (by with_reducible first | rfl | (simp; done) | (simp; omega)) rfl | refine cell_alloc ?_ _ | refine cell_drew ?_ | refine cell_drewN ?_ _ | refine cell_far ?_ (by simp) _ | (refine cell_far ?_ (by simp <;> omega) _))) | simp [go_sem, *])
  have f2 : w0.cell? ⟨w.heap.size, 2, none⟩ = some (.func (.func 102) #[] #[]) := by rw [hW0]; exact (by first | assumption | exact cell_new (by with_reducible first | rfl | (simp; done) | (simp; omega)) rfl | (repeat (first | assumption | exact cell_new (by with_reducible first | rfl | (simp; done) | (simp; omega)) rfl | refine cell_alloc ?_ _ | refine cell_drew ?_ | refine cell_drewN ?_ _ | refine cell_far ?_ (by simp) _ | (refine cell_far ?_ (by simp <;> omega) _))) | simp [go_sem, *])
  have f3 : w0.cell? ⟨w.heap.size, 3, none⟩ = some (.func (.func 57) #[] #[]) := by rw [hW0]; exact (by first | assumption | exact cell_new (by with_reducible first | rfl | (simp; done) | (simp; omega)) rfl | (repeat (first | assumption | exact cell_new (by with_reducible first | rfl | (simp; done) | (simp; omega)) rfl | refine cell_alloc ?_ _ | refine cell_drew ?_ | refine cell_drewN ?_ _ | refine cell_far ?_ (by simp) _ | (refine cell_far ?_ (by simp <;> omega) _))) | simp [go_sem, *])
  have f4 : w0.cell? ⟨w.heap.size, 4, none⟩ = some (.func (.func 103) #[] #[]) := by rw [hW0]; exact (by first | assumption | exact cell_new (by with_reducible first | rfl | (simp; done) | (simp; omega)) rfl | (repeat (first | assumption | exact cell_new (by with_reducible first | rfl | (simp; done) | (simp; omega)) rfl | refine cell_alloc ?_ _ | refine cell_drew ?_ | refine cell_drewN ?_ _ | refine cell_far ?_ (by simp) _ | (refine cell_far ?_ (by simp <;> omega) _))) | simp [go_sem, *])
  have p2 : w0.cell? ⟨w.heap.size + 1, 2, none⟩ = some (.slice ca code.length cc) := by rw [hW0]; exact (by first | assumption | exact cell_new (by with_reducible first | rfl | (simp; done) | (simp; omega)) rfl | (repeat (first | assumption | exact cell_new (by with_reducible first | rfl | (simp; done) | (simp; omega)) rfl | refine cell_alloc ?_ _ | refine cell_drew ?_ | refine cell_drewN ?_ _ | refine cell_far ?_ (by simp) _ | (refine cell_far ?_ (by simp <;> omega) _))) | simp [go_sem, *])
  have zp2 := cell_lt p2
  have hB : Below w.heap.size w w0 := by rw [hW0]; repeat (first | exact Below.refl _ _ | exact hB | refine Below.drew ?_ | refine below_drewN ?_ _ | refine bset ?_ (by simp <;> omega) _ | refine bal ?_ _)
  have hz : w.heap.size ≤ w0.heap.size := hB.size
  clear hW0
  have HP := Lib.hid (show ∀ W, Out (fun k => k = rb) w0 W → W.cell? ⟨w.heap.size, 0, none⟩ = some (.func (.func 101) #[] #[]) ∧ W.cell? ⟨w.heap.size, 1, none⟩ = some (.func (.func 56) #[] #[]) ∧ W.cell? ⟨w.heap.size, 2, none⟩ = some (.func (.func 102) #[] #[]) ∧ W.cell? ⟨w.heap.size, 3, none⟩ = some (.func (.func 57) #[] #[]) ∧ W.cell? ⟨w.heap.size, 4, none⟩ = some (.func (.func 103) #[] #[]) ∧ W.cell? ⟨w.heap.size + 1, 2, none⟩ = some (.slice ca code.length cc) from fun W h =>
    have hne : ¬ w.heap.size = rb := by omega
    have hne1 : ¬ w.heap.size + 1 = rb := by omega
    ⟨okeep h f0 hne, okeep h f1 hne, okeep h f2 hne, okeep h f3 hne, okeep h f4 hne, okeep h p2 hne1⟩)
  have hO0 := Out.of_below (fun k => k = rb) hB
  clear f0 f1 f2 f3 f4 p2
  go_loopw [16] (fun x wr => ∃ n : Nat, n ≤ code.length ∧ x = .int .i64 n ∧ Out (fun k => k = rb) w0 wr ∧ Hid (∃ s, afterN code r n = some s ∧ IntsF IsInt wr rb 0 R (fun j => s.getD j 0) ∧ Free wr rb ∧ typOf wr rb = some 50)) (fun x _ => code.length - (intOf x).toNat)
  case atStart => exact ⟨0, Nat.zero_le _, rfl, Out.refl _ _, Lib.hid ⟨r, rfl, HI.out.1.keep lims_int hB, HI.out.2.1.keep hB, typ_keep HI.out.2.2 hB⟩⟩
  case round =>
    obtain ⟨n, hn, rfl, hOr, hrel⟩ := hrel
    obtain ⟨s, hs, hI, hF, hT⟩ := hrel.out
    have HS := Lib.hid (And.intro hs (And.intro hI (And.intro hF hT)))
    have hOw : Out (fun k => k = rb) w wr := hO0.trans hOr
    have hsl := afterN_len hs
    have hbd := afterN_bd HBD.out HCs.out hn hs
    have HBN := Lib.hid (And.intro hsl hbd)
    have hz0 : w0.heap.size ≤ wr.heap.size := hOr.size
    obtain ⟨f0, f1, f2, f3, f4, p2⟩ := HP.out wr hOr
    clear hs hI hF hT hsl hbd hrel
    by_cases hlt : n < code.length
    · have hltI : (n : Int) < (code.length : Int) := by omega
      rcases HC.out with h0 | ⟨cb, co, rfl, hcap, hcell⟩
      · rw [h0] at hlt; simp at hlt
      have hcb : ¬ cb = rb := HNE.out cb co rfl (by omega)
      obtain ⟨q0, q1, q2, q3, q4⟩ := hcell n hlt
      replace q0 := okeep hOw q0 hcb
      replace q1 := okeep hOw q1 hcb
      replace q2 := okeep hOw q2 hcb
      replace q3 := okeep hOw q3 hcb
      replace q4 := okeep hOw q4 hcb
      have zq := cell_lt q0
      have zf := cell_lt f0
      have zp := cell_lt p2
      have hio := HCS.out n hlt
      have dc := fun W (k : Below wr.heap.size wr W) => doN_c (code.getD n default) (K + 65 * n) rb R (fun j => s.getD j 0) W (HS.out.2.1.keep lims_int k) hio (fun j _ => HBN.out.2 j) (by omega) hr128
      have HNX := Lib.hid (fun (s : List Int) (e : afterN code r n = some s) => afterN_succ e)
      have t0 := hio.t0
      have t1 := hio.t1
      obtain ⟨Z, hZ⟩ : ∃ Z, opI (code.getD n default) (s.getD (code.getD n default).a.toNat 0) (s.getD (code.getD n default).b.toNat 0) = Z := ⟨_, rfl⟩
      rw [hZ] at dc
      have HZ := Lib.hid hZ
      obtain ⟨i, hi⟩ : ∃ i, i = code.getD n default := ⟨_, rfl⟩
      rw [← hi] at q0 q1 q2 q3 q4 dc t0 t1
      have HIN := Lib.hid hi
      clear hi hcell hio hZ
      obtain ⟨op, it, ia, ib, ic⟩ := i
      dsimp only at q0 q1 q2 q3 q4 t0 t1
      obtain ⟨nt, rfl⟩ : ∃ x : Nat, it = x := ⟨it.toNat, by omega⟩
      have t1' : nt < R := by omega
      unfold Ins.v numV at dc
      dsimp only at dc
      unfold AnsP at dc
      have hBw := Below.refl wr.heap.size wr
      cases Z with
      | none =>
        dsimp only at dc
        go_wp2_with fail
        refine (dc _ (by repeat (first | exact Below.refl _ _ | exact hBw | refine Below.drew ?_ | refine below_drewN ?_ _ | refine bset ?_ (by simp <;> omega) _ | refine bal ?_ _))).mono ?_
        rintro e w5 ⟨⟨v5, x5, rfl, hi5⟩, hb5⟩
        have hB5 : Below wr.heap.size wr w5 := bthen (by repeat (first | exact Below.refl _ _ | exact hBw | refine Below.drew ?_ | refine below_drewN ?_ _ | refine bset ?_ (by simp <;> omega) _ | refine bal ?_ _)) hb5
        obtain ⟨n5, a5, c5, l5, rfl, -⟩ := hi5
        unfold iv at *
        clear dc
        go_wp2
        go_ret
        refine ⟨.inl ⟨n, s, hlt, HS.out.1, ?_, rfl⟩, hOw.below (by repeat (first | exact Below.refl _ _ | exact hB5 | refine Below.drew ?_ | refine below_drewN ?_ _ | refine bset ?_ (by simp <;> omega) _ | refine bal ?_ _))⟩
        rw [HNX.out s HS.out.1, HZ.out]; rfl
      | some z =>
        dsimp only at dc
        go_wp2_with fail
        refine (dc _ (by repeat (first | exact Below.refl _ _ | exact hBw | refine Below.drew ?_ | refine below_drewN ?_ _ | refine bset ?_ (by simp <;> omega) _ | refine bal ?_ _))).mono ?_
        rintro e w5 ⟨⟨v5, rfl, hi5⟩, hb5⟩
        have i1 : w5.cell? ⟨wr.heap.size, 1, none⟩ = some (.int .i64 nt) := bkeep hb5 (by first | exact cell_new rfl rfl | exact cell_drew (cell_new rfl rfl))
        have hB5 : Below wr.heap.size wr w5 := bthen (by repeat (first | exact Below.refl _ _ | exact hBw | refine Below.drew ?_ | refine below_drewN ?_ _ | refine bset ?_ (by simp <;> omega) _ | refine bal ?_ _)) hb5
        have HV5 := Lib.hid hi5
        obtain ⟨n5, a5, c5, l5, rfl, -⟩ := hi5
        unfold iv at *
        clear dc
        have hI5 := HS.out.2.1.keep lims_int hB5
        have hF5 := HS.out.2.2.1.keep hB5
        obtain ⟨nx, ax, lx, cx, o0, o1, -⟩ := hI5.at0 t1'
        have of0 := hF5.2 (nt * 2)
        have of1 := hF5.2 (nt * 2 + 1)
        have zo := cell_lt o0
        have zi := cell_lt i1
        have HI5 := Lib.hid (And.intro hI5 (And.intro hF5 (typ_keep HS.out.2.2.2 hB5)))
        clear hI5 hF5
        have hN : Hid (∀ W, W = ((w5.setCell ⟨rb, nt * 2, none⟩ (.bool n5)).setCell ⟨rb, nt * 2 + 1, none⟩ (.slice a5 l5.length c5)).alloc (.cells #[.bool n5, .slice a5 l5.length c5] 50) → IntsF IsInt W rb 0 R (fun j => (s.set nt z).getD j 0) ∧ Free W rb ∧ typOf W rb = some 50 ∧ IsInt W (.agg #[.bool n5, .slice a5 l5.length c5]) z ∧ Out (fun k => k = rb) w0 W ∧ W.cell? ⟨w5.heap.size, 0, none⟩ = some (.bool n5) ∧ W.cell? ⟨w5.heap.size, 1, none⟩ = some (.slice a5 l5.length c5)) := Lib.hid fun W hW => by
          subst hW
          have ka : Below ((w5.setCell ⟨rb, nt * 2, none⟩ (.bool n5)).setCell ⟨rb, nt * 2 + 1, none⟩ (.slice a5 l5.length c5)).heap.size ((w5.setCell ⟨rb, nt * 2, none⟩ (.bool n5)).setCell ⟨rb, nt * 2 + 1, none⟩ (.slice a5 l5.length c5)) (((w5.setCell ⟨rb, nt * 2, none⟩ (.bool n5)).setCell ⟨rb, nt * 2 + 1, none⟩ (.slice a5 l5.length c5)).alloc (.cells #[.bool n5, .slice a5 l5.length c5] 50)) := bal (Below.refl _ _) _
          refine ⟨((IntsF.store0 lims_int HI5.out.1 t1' HV5.out).keep lims_int ka).congr fun j hj => ?_, ((HI5.out.2.1.set _ _).set _ _).keep ka, typ_keep (by rw [typ_set, typ_set]; exact HI5.out.2.2) ka, ((HV5.out).lim (Lim.set2 o0 o1 _ _)).keep ka, (((hOr.below hB5).set (fun _ => rfl) _).set (fun _ => rfl) _).below ka, cell_new (by simp) rfl, cell_new (by simp) rfl⟩
          by_cases e : j = nt
          · subst e; simp [HBN.out.1, HR.out, t1']
          · have : (s.set nt z)[j]? = s[j]? := List.getElem?_set_ne (fun h => e h.symm)
            simp [e, List.getD_eq_getElem?_getD, this]
        have HST := Lib.hid (show afterN code r (n + 1) = some (s.set nt z) by rw [HNX.out s HS.out.1, HZ.out, ← HIN.out, Option.map_some]; dsimp only; rw [Int.toNat_natCast])
        go_upto_region 8 with (fail)
        refine wp_name fun w6 hW6 => ?_
        have HN6 := Lib.hid (hN.out w6 hW6)
        have y0 := HN6.out.2.2.2.2.2.1
        have y1 := HN6.out.2.2.2.2.2.2
        have z6 := cell_lt y0
        have hB6 := Below.refl w6.heap.size w6
        clear hW6 hN o0 o1 of0 of1 i1 HI5 HV5 q0 q1 q2 q3 q4 f0 f1 f2 f3 f4 p2
        go_wp2_with (go_at_fn F; refine (HFT.out _ _ z _ (HN6.out.2.2.2.1.keep ?_)).mono ?_; (repeat (first | exact Below.refl _ _ | exact hB6 | refine Below.drew ?_ | refine below_drewN ?_ _ | refine bset ?_ (by simp <;> omega) _ | refine bal ?_ _)); rintro e w7 ⟨rfl, hb7⟩)
        have hB7 : Below w6.heap.size w6 w7 := bthen (by repeat (first | exact Below.refl _ _ | exact hB6 | refine Below.drew ?_ | refine below_drewN ?_ _ | refine bset ?_ (by simp <;> omega) _ | refine bal ?_ _)) hb7
        have HNEXT := Lib.hid (show ∃ s', afterN code r (n + 1) = some s' ∧ IntsF IsInt w7 rb 0 R (fun j => s'.getD j 0) ∧ Free w7 rb ∧ typOf w7 rb = some 50 from ⟨_, HST.out, HN6.out.1.keep lims_int hB7, HN6.out.2.1.keep hB7, typ_keep HN6.out.2.2.1 hB7⟩)
        have hO7 : Out (fun k => k = rb) w0 w7 := HN6.out.2.2.2.2.1.below hB7
        clear HN6 y0 y1
        go_wp2
        exact ⟨⟨n + 1, by omega, by go_num, hO7, HNEXT⟩, by simp [intOf]; omega⟩
    · obtain rfl : n = code.length := by omega
      go_wp2
      go_ret
      exact ⟨.inr ⟨s, HS.out.1, rfl, by rw [HR.out]; exact HS.out.2.1, HS.out.2.2.2⟩, hOw⟩
end Go.Proofs.YtdllbdfchloijaaGreatDoor

