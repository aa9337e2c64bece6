/- Texts of this seat, laid together: Bdc, ExB, ExP. Each opens with its own remark, which says what it proves, and under which conditions. -/
import Derived.Test.YtannhpadoooedaaDoorG22
import Derived.Test.YtannhpadoooedaaDoorH02
import Derived.Deep.Cut
import Derived.Deep.DeepCutAuto
import Derived.Test.YtannhpadoooedaaDoorG36
set_option linter.unusedVariables false
set_option linter.unusedSimpArgs false
/- How many bits constants have. -/
namespace Go.Proofs.YtannhpadoooedaaDoor
open Num
theorem pow2_bd {n k : Nat} (h : n < k) : Bd k ((2 : Int) ^ n) := by
  unfold Bd
  rw [Int.natAbs_pow]
  exact Nat.pow_lt_pow_right (by decide) h
theorem const_bd {c : Int} {k : Nat} (h1 : -512 ≤ c) (h2 : c ≤ 512) (hk : 10 ≤ k) : Bd k c := by
  unfold Bd
  exact Nat.lt_of_lt_of_le (show c.natAbs < 2 ^ 10 by omega) (Nat.pow_le_pow_right (by decide) hk)
theorem p2_ne (n : Nat) : (2 : Int) ^ n ≠ 0 := by
  have := Nat.pow_pos (n := n) (show 0 < 2 by omega)
  have e : ((2 ^ n : Nat) : Int) = (2 : Int) ^ n := by rw [Int.natCast_pow]; rfl
  rw [← e]; omega
end Go.Proofs.YtannhpadoooedaaDoor
/- exact: what an instruction does to numbers (do). -/
namespace Go.Proofs.YtannhpadoooedaaDoor
open Num
open Go.ChangeShapes Go.WideShapes Go.ChangeAt Go.RowKit
set_option linter.unusedVariables false
set_option linter.unusedSimpArgs false
attribute [local go_sem ↓] Go.wp_at_zero Go.wp_at_succ
theorem ansP_b {z : Option Int} {x : Int} {v : Value} {b : Bool} {w w' : World} (h : (b = true → z = some x) ∧ (b = false → z = none)) (hv : IsInt w' v x) (hb : Below w.heap.size w w') : AnsP z w (.returned (.tuple #[v, .bool b])) w' := by
  cases b with
  | true => exact ansP_some (h.1 rfl) hv hb
  | false => exact ansP_none (h.2 rfl) hv hb
theorem nover_any (va vc : Value) (a c : Int) (k : Nat) (w : World) (hx : IsInt w va a) (hy : IsInt w vc c) (bx : Bd k a) (bY : Bd k c) (hk : k ≤ 17179869184) (h0 : c ≠ 0) :
    Calls Tryd.prog 87 #[va, vc] w fun e w' => (∃ v b x, e = .returned (.tuple #[v, .bool b]) ∧ IsInt w' v x ∧ Hid ((b = true → a % c = 0 ∧ x = a / c) ∧ (b = false → a % c ≠ 0))) ∧ Below w.heap.size w w' := by
  by_cases hd : a % c = 0
  · refine (nover_yes va vc a c k w hx hy bx bY hk h0 hd).mono ?_
    rintro e w' ⟨⟨v, rfl, hv⟩, hb⟩
    exact ⟨⟨v, true, _, rfl, hv, Lib.hid ⟨fun _ => ⟨hd, rfl⟩, fun h => by cases h⟩⟩, hb⟩
  · refine (nover_no va vc a c k w hx hy bx bY hk h0 hd).mono ?_
    rintro e w' ⟨⟨v, x, rfl, hv⟩, hb⟩
    exact ⟨⟨v, false, x, rfl, hv, Lib.hid ⟨(fun h => by cases h), fun _ => hd⟩⟩, hb⟩
/-- how numbers are calculated with -/
def numV : Value := .agg #[.func (.func 70) #[] #[], .func (.func 10) #[] #[], .func (.func 71) #[] #[], .func (.func 86) #[] #[], .func (.func 87) #[] #[]]
theorem numbers_c (w : World) : Calls Tryd.prog 54 #[] w fun e w' => e = .returned numV ∧ Below w.heap.size w w' := by
  have hB := Below.refl w.heap.size w
  go_enter Tryd.func54, Tryd.ntmps54
  go_wp2
  refine bodyPost_ret (v := numV) (by simp [numV, results, Tryd.results54, go_sem, *]) rfl ⟨rfl, ?_⟩
  repeat (first | exact Below.refl _ _ | exact hB | refine Below.drew ?_ | refine below_drewN ?_ _ | refine bset ?_ (by simp <;> omega) _ | refine bal ?_ _)
set_option maxRecDepth 100000 in
set_option maxHeartbeats 16000000 in
theorem doN_c (i : Ins) (k rb n : Nat) (f : Nat → Int) (w : World) (hr : IntsF IsInt w rb 0 n f) (hi : InsOk i n) (hb : ∀ j, j < n → Bd k (f j)) (hk : k ≤ 4294967296) (hn : n ≤ 128) :
    Calls Tryd.prog 85 #[numV, .slice (some ⟨rb, 0, none⟩) n n, i.v] w (AnsP (opI i (f i.a.toNat) (f i.b.toNat)) w) := by
  obtain ⟨o1, o2, t0, t1, a0, a1, b0, b1, hc⟩ := hi
  obtain ⟨op, it, ia, ib, ic⟩ := i
  dsimp only at o1 o2 t0 t1 a0 a1 b0 b1 hc ⊢
  obtain ⟨na, rfl⟩ : ∃ x : Nat, ia = x := ⟨ia.toNat, by omega⟩
  obtain ⟨nb, rfl⟩ : ∃ x : Nat, ib = x := ⟨ib.toNat, by omega⟩
  have a1' : na < n := by omega
  have b1' : nb < n := by omega
  rw [Int.toNat_natCast, Int.toNat_natCast]
  obtain ⟨n1, ad1, l1, c1, x0, x1, hx⟩ := hr.at0 a1'
  obtain ⟨n2, ad2, l2, c2, y0, y1, hy⟩ := hr.at0 b1'
  have bx := hb na a1'
  have bY := hb nb b1'
  obtain ⟨a, haE⟩ : ∃ a, f na = a := ⟨_, rfl⟩
  obtain ⟨b, hbE⟩ : ∃ b, f nb = b := ⟨_, rfl⟩
  rw [haE] at hx bx ⊢
  rw [hbE] at hy bY ⊢
  clear haE hbE hb hr t0 t1 a0 a1 b0 b1
  have HX := Lib.hid hx
  have HY := Lib.hid hy
  have HC := Lib.hid hc
  have HBD := Lib.hid (And.intro bx bY)
  have hga : (na : Int) < (n : Int) := by omega
  have hgb : (nb : Int) < (n : Int) := by omega
  clear hx hy hc bx bY
  have zrb := cell_lt x0
  have hB := Below.refl w.heap.size w
  unfold Ins.v numV
  dsimp only
  go_enter Tryd.func85, Tryd.ntmps85
  go_wp2
  refine wp_name fun w0 hW0 => ?_
  have f0 : w0.cell? ⟨w.heap.size, 0, none⟩ = some (.func (.func 70) #[] #[]) := by rw [hW0]; exact (by first | assumption | exact cell_new (by with_reducible first | rfl | (simp; done) | (simp; omega)) rfl | (repeat (first | assumption | exact cell_new (by with_reducible first | rfl | (simp; done) | (simp; omega)) rfl | refine cell_alloc ?_ _ | refine cell_drew ?_ | refine cell_drewN ?_ _ | refine cell_far ?_ (by simp) _ | (refine cell_far ?_ (by simp <;> omega) _))) | simp [go_sem, *])
  have zf0 := cell_lt f0
  have f1 : w0.cell? ⟨w.heap.size, 1, none⟩ = some (.func (.func 10) #[] #[]) := by rw [hW0]; exact (by first | assumption | exact cell_new (by with_reducible first | rfl | (simp; done) | (simp; omega)) rfl | (repeat (first | assumption | exact cell_new (by with_reducible first | rfl | (simp; done) | (simp; omega)) rfl | refine cell_alloc ?_ _ | refine cell_drew ?_ | refine cell_drewN ?_ _ | refine cell_far ?_ (by simp) _ | (refine cell_far ?_ (by simp <;> omega) _))) | simp [go_sem, *])
  have f2 : w0.cell? ⟨w.heap.size, 2, none⟩ = some (.func (.func 71) #[] #[]) := by rw [hW0]; exact (by first | assumption | exact cell_new (by with_reducible first | rfl | (simp; done) | (simp; omega)) rfl | (repeat (first | assumption | exact cell_new (by with_reducible first | rfl | (simp; done) | (simp; omega)) rfl | refine cell_alloc ?_ _ | refine cell_drew ?_ | refine cell_drewN ?_ _ | refine cell_far ?_ (by simp) _ | (refine cell_far ?_ (by simp <;> omega) _))) | simp [go_sem, *])
  have f3 : w0.cell? ⟨w.heap.size, 3, none⟩ = some (.func (.func 86) #[] #[]) := by rw [hW0]; exact (by first | assumption | exact cell_new (by with_reducible first | rfl | (simp; done) | (simp; omega)) rfl | (repeat (first | assumption | exact cell_new (by with_reducible first | rfl | (simp; done) | (simp; omega)) rfl | refine cell_alloc ?_ _ | refine cell_drew ?_ | refine cell_drewN ?_ _ | refine cell_far ?_ (by simp) _ | (refine cell_far ?_ (by simp <;> omega) _))) | simp [go_sem, *])
  have f4 : w0.cell? ⟨w.heap.size, 4, none⟩ = some (.func (.func 87) #[] #[]) := by rw [hW0]; exact (by first | assumption | exact cell_new (by with_reducible first | rfl | (simp; done) | (simp; omega)) rfl | (repeat (first | assumption | exact cell_new (by with_reducible first | rfl | (simp; done) | (simp; omega)) rfl | refine cell_alloc ?_ _ | refine cell_drew ?_ | refine cell_drewN ?_ _ | refine cell_far ?_ (by simp) _ | (refine cell_far ?_ (by simp <;> omega) _))) | simp [go_sem, *])
  have i0 : w0.cell? ⟨w.heap.size + 1, 0, none⟩ = some (.int .i64 op) := by rw [hW0]; exact (by first | assumption | exact cell_new (by with_reducible first | rfl | (simp; done) | (simp; omega)) rfl | (repeat (first | assumption | exact cell_new (by with_reducible first | rfl | (simp; done) | (simp; omega)) rfl | refine cell_alloc ?_ _ | refine cell_drew ?_ | refine cell_drewN ?_ _ | refine cell_far ?_ (by simp) _ | (refine cell_far ?_ (by simp <;> omega) _))) | simp [go_sem, *])
  have zi0 := cell_lt i0
  have i2 : w0.cell? ⟨w.heap.size + 1, 2, none⟩ = some (.int .i64 na) := by rw [hW0]; exact (by first | assumption | exact cell_new (by with_reducible first | rfl | (simp; done) | (simp; omega)) rfl | (repeat (first | assumption | exact cell_new (by with_reducible first | rfl | (simp; done) | (simp; omega)) rfl | refine cell_alloc ?_ _ | refine cell_drew ?_ | refine cell_drewN ?_ _ | refine cell_far ?_ (by simp) _ | (refine cell_far ?_ (by simp <;> omega) _))) | simp [go_sem, *])
  have i3 : w0.cell? ⟨w.heap.size + 1, 3, none⟩ = some (.int .i64 nb) := by rw [hW0]; exact (by first | assumption | exact cell_new (by with_reducible first | rfl | (simp; done) | (simp; omega)) rfl | (repeat (first | assumption | exact cell_new (by with_reducible first | rfl | (simp; done) | (simp; omega)) rfl | refine cell_alloc ?_ _ | refine cell_drew ?_ | refine cell_drewN ?_ _ | refine cell_far ?_ (by simp) _ | (refine cell_far ?_ (by simp <;> omega) _))) | simp [go_sem, *])
  have i4 : w0.cell? ⟨w.heap.size + 1, 4, none⟩ = some (.int .i64 ic) := by rw [hW0]; exact (by first | assumption | exact cell_new (by with_reducible first | rfl | (simp; done) | (simp; omega)) rfl | (repeat (first | assumption | exact cell_new (by with_reducible first | rfl | (simp; done) | (simp; omega)) rfl | refine cell_alloc ?_ _ | refine cell_drew ?_ | refine cell_drewN ?_ _ | refine cell_far ?_ (by simp) _ | (refine cell_far ?_ (by simp <;> omega) _))) | simp [go_sem, *])
  have r0f : w0.frozen? ⟨w.heap.size + 2, 0, none⟩ = false := by rw [hW0]; simp [go_sem, *]
  have r0 : w0.cell? ⟨w.heap.size + 2, 0, none⟩ = some (.bool false) := by rw [hW0]; exact (by first | assumption | exact cell_new (by with_reducible first | rfl | (simp; done) | (simp; omega)) rfl | (repeat (first | assumption | exact cell_new (by with_reducible first | rfl | (simp; done) | (simp; omega)) rfl | refine cell_alloc ?_ _ | refine cell_drew ?_ | refine cell_drewN ?_ _ | refine cell_far ?_ (by simp) _ | (refine cell_far ?_ (by simp <;> omega) _))) | simp [go_sem, *])
  have zr0 := cell_lt r0
  have r1f : w0.frozen? ⟨w.heap.size + 2, 1, none⟩ = false := by rw [hW0]; simp [go_sem, *]
  have r1 : w0.cell? ⟨w.heap.size + 2, 1, none⟩ = some (.slice none 0 0) := by rw [hW0]; exact (by first | assumption | exact cell_new (by with_reducible first | rfl | (simp; done) | (simp; omega)) rfl | (repeat (first | assumption | exact cell_new (by with_reducible first | rfl | (simp; done) | (simp; omega)) rfl | refine cell_alloc ?_ _ | refine cell_drew ?_ | refine cell_drewN ?_ _ | refine cell_far ?_ (by simp) _ | (refine cell_far ?_ (by simp <;> omega) _))) | simp [go_sem, *])
  have hB : Below w.heap.size w w0 := by rw [hW0]; repeat (first | exact Below.refl _ _ | exact hB | refine Below.drew ?_ | refine below_drewN ?_ _ | refine bset ?_ (by simp <;> omega) _ | refine bal ?_ _)
  have hz : w.heap.size ≤ w0.heap.size := hB.size
  clear hW0
  have HS := Lib.hid (show ∀ W, Below w0.heap.size w0 W → W.cell? ⟨w.heap.size + 1, 2, none⟩ = some (.int .i64 na) ∧ W.cell? ⟨w.heap.size + 1, 3, none⟩ = some (.int .i64 nb) ∧ W.cell? ⟨rb, na * 2, none⟩ = some (.bool n1) ∧ W.cell? ⟨rb, na * 2 + 1, none⟩ = some (.slice ad1 l1 c1) ∧ W.cell? ⟨rb, nb * 2, none⟩ = some (.bool n2) ∧ W.cell? ⟨rb, nb * 2 + 1, none⟩ = some (.slice ad2 l2 c2) from fun W h => ⟨bkeep h i2, bkeep h i3, bkeep (bthen hB h) x0, bkeep (bthen hB h) x1, bkeep (bthen hB h) y0, bkeep (bthen hB h) y1⟩)
  have HP := Lib.hid (show ∀ W, Below w0.heap.size w0 W → (W.cell? ⟨w.heap.size, 0, none⟩ = some (.func (.func 70) #[] #[]) ∧ W.cell? ⟨w.heap.size, 1, none⟩ = some (.func (.func 10) #[] #[]) ∧ W.cell? ⟨w.heap.size, 2, none⟩ = some (.func (.func 71) #[] #[]) ∧ W.cell? ⟨w.heap.size, 3, none⟩ = some (.func (.func 86) #[] #[]) ∧ W.cell? ⟨w.heap.size, 4, none⟩ = some (.func (.func 87) #[] #[])) ∧ W.cell? ⟨w.heap.size + 1, 0, none⟩ = some (.int .i64 op) ∧ W.cell? ⟨w.heap.size + 1, 4, none⟩ = some (.int .i64 ic) ∧ W.cell? ⟨w.heap.size + 2, 0, none⟩ = some (.bool false) ∧ W.cell? ⟨w.heap.size + 2, 1, none⟩ = some (.slice none 0 0) ∧ W.frozen? ⟨w.heap.size + 2, 0, none⟩ = false ∧ W.frozen? ⟨w.heap.size + 2, 1, none⟩ = false from fun W h => ⟨⟨bkeep h f0, bkeep h f1, bkeep h f2, bkeep h f3, bkeep h f4⟩, bkeep h i0, bkeep h i4, bkeep h r0, bkeep h r1, bkeepf h r0 r0f, bkeepf h r1 r1f⟩)
  have zrb0 : rb < w0.heap.size := by omega
  have zi0 : w.heap.size + 1 < w0.heap.size := zi0
  have hBw := Below.refl w0.heap.size w0
  clear f0 f1 f2 f3 f4 i0 i2 i3 i4 r0 r1 r0f r1f x0 x1 y0 y1
  go_cut [8, 9] (fun p q wx => ∃ g h : Nat, p = .pointer (some ⟨g, 0, none⟩) ∧ q = .pointer (some ⟨h, 0, none⟩) ∧ wx.cell? ⟨g, 0, none⟩ = some (.bool n1) ∧ wx.cell? ⟨g, 1, none⟩ = some (.slice ad1 l1 c1) ∧ wx.cell? ⟨h, 0, none⟩ = some (.bool n2) ∧ wx.cell? ⟨h, 1, none⟩ = some (.slice ad2 l2 c2) ∧ Below w0.heap.size w0 wx)
  case first =>
    go_region_held3 (fun w' => w'.cell? ⟨w.heap.size + 1, 2, none⟩ = some (.int .i64 na) ∧ w'.cell? ⟨w.heap.size + 1, 3, none⟩ = some (.int .i64 nb) ∧ w'.cell? ⟨rb, na * 2, none⟩ = some (.bool n1) ∧ w'.cell? ⟨rb, na * 2 + 1, none⟩ = some (.slice ad1 l1 c1) ∧ w'.cell? ⟨rb, nb * 2, none⟩ = some (.bool n2) ∧ w'.cell? ⟨rb, nb * 2 + 1, none⟩ = some (.slice ad2 l2 c2))
      (first | (refine HS.out _ ?_; (repeat (first | exact Below.refl _ _ | exact hBw | refine Below.drew ?_ | refine below_drewN ?_ _ | refine bset ?_ (by simp <;> omega) _ | refine bal ?_ _)); done) | fail)
      (fail)
    all_goals
      go_wp2_with fail
      go_meet
      refine ⟨_, _, rfl, rfl, ?_, ?_, ?_, ?_, ?_⟩
      · repeat (first | (refine cell_new ?_ rfl; first | (with_reducible rfl) | (simp only [World.size_alloc]; done)) | (with_reducible refine cell_drew ?_) | (with_reducible refine cell_alloc ?_ _))
      · repeat (first | (refine cell_new ?_ rfl; first | (with_reducible rfl) | (simp only [World.size_alloc]; done)) | (with_reducible refine cell_drew ?_) | (with_reducible refine cell_alloc ?_ _))
      · repeat (first | (refine cell_new ?_ rfl; first | (with_reducible rfl) | (simp only [World.size_alloc]; done)) | (with_reducible refine cell_drew ?_) | (with_reducible refine cell_alloc ?_ _))
      · repeat (first | (refine cell_new ?_ rfl; first | (with_reducible rfl) | (simp only [World.size_alloc]; done)) | (with_reducible refine cell_drew ?_) | (with_reducible refine cell_alloc ?_ _))
      ·
        repeat (first | exact Below.refl _ _ | exact hBw | refine Below.drew ?_ | refine below_drewN ?_ _ | refine bset ?_ (by simp <;> omega) _ | refine bal ?_ _)
  case rest =>
    obtain ⟨g, h, rfl, rfl, g0, g1, h0, h1, hbc⟩ := hcut
    obtain ⟨⟨f0, f1, f2, f3, f4⟩, i0, i4, r0, r1, r0f, r1f⟩ := HP.out wc hbc
    have hBc := bthen hB hbc
    have HXC := Lib.hid (HX.out.keep hBc)
    have HYC := Lib.hid (HY.out.keep hBc)
    have zg := cell_lt g0
    have zh := cell_lt h0
    have zr := cell_lt r0
    have hBw := Below.refl wc.heap.size wc
    clear hbc HS HP
    have nx := fun W (k : Below wc.heap.size wc W) => neg_c _ a W (HXC.out.keep k)
    have ax := fun W (q : Below wc.heap.size wc W) => addI_c _ _ a b k W (HXC.out.keep q) (HYC.out.keep q) HBD.out.1 HBD.out.2 (by omega)
    have sx := fun W (q : Below wc.heap.size wc W) => subI_c _ _ a b k W (HXC.out.keep q) (HYC.out.keep q) HBD.out.1 HBD.out.2 (by omega)
    have hop : op = 1 ∨ op = 2 ∨ op = 3 ∨ op = 4 ∨ op = 5 ∨ op = 6 ∨ op = 7 ∨ op = 8 := by omega
    clear o1 o2
    rcases hop with rfl | rfl | rfl | rfl | rfl | rfl | rfl | rfl
    · go_wp2
      refine bodyPost_ret (v := .tuple #[.agg #[.bool n1, .slice ad1 l1 c1], .bool true]) (by simp [results, Tryd.results85, go_sem, *]) rfl (ansP_some (by simp [opI]) (HXC.out.put2 r0 r1 _ _) ?_)
      repeat (first | exact Below.refl _ _ | exact hBc | refine Below.drew ?_ | refine below_drewN ?_ _ | refine bset ?_ (by simp <;> omega) _ | refine bal ?_ _)
    ·
      go_wp2_with fail
      refine (nx _ (by repeat (first | exact Below.refl _ _ | exact hBw | refine Below.drew ?_ | refine below_drewN ?_ _ | refine bset ?_ (by simp <;> omega) _ | refine bal ?_ _))).mono ?_
      rintro e w9 ⟨⟨v9, rfl, hi9⟩, hb9⟩
      have hB9 : Below wc.heap.size wc w9 := bthen (by repeat (first | exact Below.refl _ _ | exact hBw | refine Below.drew ?_ | refine below_drewN ?_ _ | refine bset ?_ (by simp <;> omega) _ | refine bal ?_ _)) hb9
      have HI9 := Lib.hid hi9
      obtain ⟨n9, a9, c9, l9, rfl, -⟩ := hi9
      unfold iv at *
      have r09f := bkeepf hB9 r0 r0f
      have r19f := bkeepf hB9 r1 r1f
      have r09 := bkeep hB9 r0
      have r19 := bkeep hB9 r1
      go_wp2
      refine bodyPost_ret (v := .tuple #[.agg #[.bool n9, .slice a9 l9.length c9], .bool true]) (by simp [results, Tryd.results85, go_sem, *]) rfl (ansP_some (by simp [opI]) (HI9.out.put2 r09 r19 _ _) ?_)
      have hB99 := bthen hBc hB9
      repeat (first | exact Below.refl _ _ | exact hB99 | refine Below.drew ?_ | refine below_drewN ?_ _ | refine bset ?_ (by simp <;> omega) _ | refine bal ?_ _)
    ·
      go_wp2_with fail
      refine (ax _ (by repeat (first | exact Below.refl _ _ | exact hBw | refine Below.drew ?_ | refine below_drewN ?_ _ | refine bset ?_ (by simp <;> omega) _ | refine bal ?_ _))).mono ?_
      rintro e w9 ⟨⟨v9, rfl, hi9⟩, hb9⟩
      have hB9 : Below wc.heap.size wc w9 := bthen (by repeat (first | exact Below.refl _ _ | exact hBw | refine Below.drew ?_ | refine below_drewN ?_ _ | refine bset ?_ (by simp <;> omega) _ | refine bal ?_ _)) hb9
      have HI9 := Lib.hid hi9
      obtain ⟨n9, a9, c9, l9, rfl, -⟩ := hi9
      unfold iv at *
      have r09f := bkeepf hB9 r0 r0f
      have r19f := bkeepf hB9 r1 r1f
      have r09 := bkeep hB9 r0
      have r19 := bkeep hB9 r1
      go_wp2
      refine bodyPost_ret (v := .tuple #[.agg #[.bool n9, .slice a9 l9.length c9], .bool true]) (by simp [results, Tryd.results85, go_sem, *]) rfl (ansP_some (by simp [opI]) (HI9.out.put2 r09 r19 _ _) ?_)
      have hB99 := bthen hBc hB9
      repeat (first | exact Below.refl _ _ | exact hB99 | refine Below.drew ?_ | refine below_drewN ?_ _ | refine bset ?_ (by simp <;> omega) _ | refine bal ?_ _)
    ·
      go_wp2_with fail
      refine (sx _ (by repeat (first | exact Below.refl _ _ | exact hBw | refine Below.drew ?_ | refine below_drewN ?_ _ | refine bset ?_ (by simp <;> omega) _ | refine bal ?_ _))).mono ?_
      rintro e w9 ⟨⟨v9, rfl, hi9⟩, hb9⟩
      have hB9 : Below wc.heap.size wc w9 := bthen (by repeat (first | exact Below.refl _ _ | exact hBw | refine Below.drew ?_ | refine below_drewN ?_ _ | refine bset ?_ (by simp <;> omega) _ | refine bal ?_ _)) hb9
      have HI9 := Lib.hid hi9
      obtain ⟨n9, a9, c9, l9, rfl, -⟩ := hi9
      unfold iv at *
      have r09f := bkeepf hB9 r0 r0f
      have r19f := bkeepf hB9 r1 r1f
      have r09 := bkeep hB9 r0
      have r19 := bkeep hB9 r1
      go_wp2
      refine bodyPost_ret (v := .tuple #[.agg #[.bool n9, .slice a9 l9.length c9], .bool true]) (by simp [results, Tryd.results85, go_sem, *]) rfl (ansP_some (by simp [opI]) (HI9.out.put2 r09 r19 _ _) ?_)
      have hB99 := bthen hBc hB9
      repeat (first | exact Below.refl _ _ | exact hB99 | refine Below.drew ?_ | refine below_drewN ?_ _ | refine bset ?_ (by simp <;> omega) _ | refine bal ?_ _)
    · rw [constB_mul (.inl rfl)] at HC
      have hc := of_decide_eq_true HC.out
      clear nx ax sx f0 f1 f2 h0 h1 zh zrb0 zi0 zrb hga hgb a1' b1'
      have oc := fun W => of_c ic W (by omega) (by omega)
      have mc := fun vz W (q : Below wc.heap.size wc W) (hz : IsInt W vz ic) => mul_c _ vz a ic k 10 W (HXC.out.keep q) hz HBD.out.1 (const_bd hc.2.1 hc.2.2 (Nat.le_refl _)) (by omega) (by omega)
      go_wp2
      go_region_law (go_simp; go_wp2_with (first
        | (go_at_call 33; refine (oc _).mono ?_; rintro e w5 ⟨⟨v5, rfl, hi5⟩, hb5⟩; have hB5 : Below wc.heap.size wc w5 := bthen (by repeat (first | exact Below.refl _ _ | exact hBw | refine Below.drew ?_ | refine below_drewN ?_ _ | refine bset ?_ (by simp <;> omega) _ | refine bal ?_ _)) hb5; have HI5 := Lib.hid hi5; have f35 := bkeep hB5 f3; have f45 := bkeep hB5 f4; have g05 := bkeep hB5 g0; have g15 := bkeep hB5 g1; obtain ⟨n5, a5, c5, l5, rfl, -⟩ := hi5; unfold iv at *)
        | (go_at_call 86; refine (mc _ _ ?_ ?_).mono ?_; (repeat (first | exact Below.refl _ _ | exact hB5 | refine Below.drew ?_ | refine below_drewN ?_ _ | refine bset ?_ (by simp <;> omega) _ | refine bal ?_ _)); (refine HI5.out.keep ?_; have hBz := Below.refl w5.heap.size w5; (repeat (first | exact Below.refl _ _ | exact hBz | refine Below.drew ?_ | refine below_drewN ?_ _ | refine bset ?_ (by simp <;> omega) _ | refine bal ?_ _))); rintro e w9 ⟨⟨v9, rfl, hi9⟩, hb9⟩; have hB9 : Below wc.heap.size wc w9 := bthen (by repeat (first | exact Below.refl _ _ | exact hB5 | refine Below.drew ?_ | refine below_drewN ?_ _ | refine bset ?_ (by simp <;> omega) _ | refine bal ?_ _)) hb9; have r09 := bkeep hB9 r0; have r19 := bkeep hB9 r1; have r09f := bkeepf hB9 r0 r0f; have r19f := bkeepf hB9 r1 r1f; have HI9 := Lib.hid hi9; obtain ⟨n9, a9, c9, l9, rfl, -⟩ := hi9; unfold iv at *)))
      all_goals
        clear oc mc
        go_wp2
        refine bodyPost_ret (v := .tuple #[.agg #[.bool n9, .slice a9 l9.length c9], .bool true]) (by simp [results, Tryd.results85, go_sem, *]) rfl ?_
        have hB99 := bthen hBc hB9
      all_goals
        refine ansP_some (by simp [opI]) (HI9.out.put2 r09 r19 _ _) ?_
        repeat (first | exact Below.refl _ _ | exact hB99 | refine Below.drew ?_ | refine below_drewN ?_ _ | refine bset ?_ (by simp <;> omega) _ | refine bal ?_ _)
    · rw [constB_mul (.inr rfl)] at HC
      have hc := of_decide_eq_true HC.out
      clear nx ax sx f0 f1 f2 h0 h1 zh zrb0 zi0 zrb hga hgb a1' b1'
      have oc := fun W => of_c ic W (by omega) (by omega)
      have mc := fun vz W (q : Below wc.heap.size wc W) (hz : IsInt W vz ic) => nover_any _ vz a ic (k + 65) W (HXC.out.keep q) hz (HBD.out.1.mono (by omega)) (const_bd hc.2.1 hc.2.2 (by omega)) (by omega) hc.1
      go_wp2
      go_region_law (go_simp; go_wp2_with (first
        | (go_at_call 33; refine (oc _).mono ?_; rintro e w5 ⟨⟨v5, rfl, hi5⟩, hb5⟩; have hB5 : Below wc.heap.size wc w5 := bthen (by repeat (first | exact Below.refl _ _ | exact hBw | refine Below.drew ?_ | refine below_drewN ?_ _ | refine bset ?_ (by simp <;> omega) _ | refine bal ?_ _)) hb5; have HI5 := Lib.hid hi5; have f35 := bkeep hB5 f3; have f45 := bkeep hB5 f4; have g05 := bkeep hB5 g0; have g15 := bkeep hB5 g1; obtain ⟨n5, a5, c5, l5, rfl, -⟩ := hi5; unfold iv at *)
        | (go_at_call 87; refine (mc _ _ ?_ ?_).mono ?_; (repeat (first | exact Below.refl _ _ | exact hB5 | refine Below.drew ?_ | refine below_drewN ?_ _ | refine bset ?_ (by simp <;> omega) _ | refine bal ?_ _)); (refine HI5.out.keep ?_; have hBz := Below.refl w5.heap.size w5; (repeat (first | exact Below.refl _ _ | exact hBz | refine Below.drew ?_ | refine below_drewN ?_ _ | refine bset ?_ (by simp <;> omega) _ | refine bal ?_ _))); rintro e w9 ⟨⟨v9, b9, x9, rfl, hi9, HB9⟩, hb9⟩; have hB9 : Below wc.heap.size wc w9 := bthen (by repeat (first | exact Below.refl _ _ | exact hB5 | refine Below.drew ?_ | refine below_drewN ?_ _ | refine bset ?_ (by simp <;> omega) _ | refine bal ?_ _)) hb9; have r09 := bkeep hB9 r0; have r19 := bkeep hB9 r1; have r09f := bkeepf hB9 r0 r0f; have r19f := bkeepf hB9 r1 r1f; have HI9 := Lib.hid hi9; obtain ⟨n9, a9, c9, l9, rfl, -⟩ := hi9; unfold iv at *)))
      all_goals
        clear oc mc
        go_wp2
        refine bodyPost_ret (v := .tuple #[.agg #[.bool n9, .slice a9 l9.length c9], .bool b9]) (by simp [results, Tryd.results85, go_sem, *]) rfl ?_
        have hB99 := bthen hBc hB9
      all_goals
        refine ansP_b ⟨fun h => ?_, fun h => ?_⟩ (HI9.out.put2 r09 r19 _ _) ?_
        · simp [opI, (HB9.out.1 h).1, (HB9.out.1 h).2]
        · simp [opI, HB9.out.2 h]
        ·
          repeat (first | exact Below.refl _ _ | exact hB99 | refine Below.drew ?_ | refine below_drewN ?_ _ | refine bset ?_ (by simp <;> omega) _ | refine bal ?_ _)
    · rw [constB_shift (.inl rfl)] at HC
      have hc := of_decide_eq_true HC.out
      obtain ⟨m, rfl⟩ : ∃ m : Nat, ic = m := ⟨ic.toNat, by omega⟩
      clear nx ax sx f0 f1 f2 h0 h1 zh zrb0 zi0 zrb hga hgb a1' b1'
      have oc := fun W => power_c m W (by omega)
      have mc := fun vz W (q : Below wc.heap.size wc W) (hz : IsInt W vz (2 ^ m)) => mul_c _ vz a (2 ^ m) k 65 W (HXC.out.keep q) hz HBD.out.1 (pow2_bd (by omega)) (by omega) (by omega)
      go_wp2
      go_region_law (go_simp; go_wp2_with (first
        | (go_at_call 118; refine (oc _).mono ?_; rintro e w5 ⟨⟨v5, rfl, hi5⟩, hb5⟩; have hB5 : Below wc.heap.size wc w5 := bthen (by repeat (first | exact Below.refl _ _ | exact hBw | refine Below.drew ?_ | refine below_drewN ?_ _ | refine bset ?_ (by simp <;> omega) _ | refine bal ?_ _)) hb5; have HI5 := Lib.hid hi5; have f35 := bkeep hB5 f3; have f45 := bkeep hB5 f4; have g05 := bkeep hB5 g0; have g15 := bkeep hB5 g1; obtain ⟨n5, a5, c5, l5, rfl, -⟩ := hi5; unfold iv at *)
        | (go_at_call 86; refine (mc _ _ ?_ ?_).mono ?_; (repeat (first | exact Below.refl _ _ | exact hB5 | refine Below.drew ?_ | refine below_drewN ?_ _ | refine bset ?_ (by simp <;> omega) _ | refine bal ?_ _)); (refine HI5.out.keep ?_; have hBz := Below.refl w5.heap.size w5; (repeat (first | exact Below.refl _ _ | exact hBz | refine Below.drew ?_ | refine below_drewN ?_ _ | refine bset ?_ (by simp <;> omega) _ | refine bal ?_ _))); rintro e w9 ⟨⟨v9, rfl, hi9⟩, hb9⟩; have hB9 : Below wc.heap.size wc w9 := bthen (by repeat (first | exact Below.refl _ _ | exact hB5 | refine Below.drew ?_ | refine below_drewN ?_ _ | refine bset ?_ (by simp <;> omega) _ | refine bal ?_ _)) hb9; have r09 := bkeep hB9 r0; have r19 := bkeep hB9 r1; have r09f := bkeepf hB9 r0 r0f; have r19f := bkeepf hB9 r1 r1f; have HI9 := Lib.hid hi9; obtain ⟨n9, a9, c9, l9, rfl, -⟩ := hi9; unfold iv at *)))
      all_goals
        clear oc mc
        go_wp2
        refine bodyPost_ret (v := .tuple #[.agg #[.bool n9, .slice a9 l9.length c9], .bool true]) (by simp [results, Tryd.results85, go_sem, *]) rfl ?_
        have hB99 := bthen hBc hB9
      all_goals
        refine ansP_some (by simp [opI]) (HI9.out.put2 r09 r19 _ _) ?_
        repeat (first | exact Below.refl _ _ | exact hB99 | refine Below.drew ?_ | refine below_drewN ?_ _ | refine bset ?_ (by simp <;> omega) _ | refine bal ?_ _)
    · rw [constB_shift (.inr rfl)] at HC
      have hc := of_decide_eq_true HC.out
      obtain ⟨m, rfl⟩ : ∃ m : Nat, ic = m := ⟨ic.toNat, by omega⟩
      clear nx ax sx f0 f1 f2 h0 h1 zh zrb0 zi0 zrb hga hgb a1' b1'
      have oc := fun W => power_c m W (by omega)
      have mc := fun vz W (q : Below wc.heap.size wc W) (hz : IsInt W vz (2 ^ m)) => nover_any _ vz a (2 ^ m) (k + 65) W (HXC.out.keep q) hz (HBD.out.1.mono (by omega)) (pow2_bd (by omega)) (by omega) (p2_ne m)
      go_wp2
      go_region_law (go_simp; go_wp2_with (first
        | (go_at_call 118; refine (oc _).mono ?_; rintro e w5 ⟨⟨v5, rfl, hi5⟩, hb5⟩; have hB5 : Below wc.heap.size wc w5 := bthen (by repeat (first | exact Below.refl _ _ | exact hBw | refine Below.drew ?_ | refine below_drewN ?_ _ | refine bset ?_ (by simp <;> omega) _ | refine bal ?_ _)) hb5; have HI5 := Lib.hid hi5; have f35 := bkeep hB5 f3; have f45 := bkeep hB5 f4; have g05 := bkeep hB5 g0; have g15 := bkeep hB5 g1; obtain ⟨n5, a5, c5, l5, rfl, -⟩ := hi5; unfold iv at *)
        | (go_at_call 87; refine (mc _ _ ?_ ?_).mono ?_; (repeat (first | exact Below.refl _ _ | exact hB5 | refine Below.drew ?_ | refine below_drewN ?_ _ | refine bset ?_ (by simp <;> omega) _ | refine bal ?_ _)); (refine HI5.out.keep ?_; have hBz := Below.refl w5.heap.size w5; (repeat (first | exact Below.refl _ _ | exact hBz | refine Below.drew ?_ | refine below_drewN ?_ _ | refine bset ?_ (by simp <;> omega) _ | refine bal ?_ _))); rintro e w9 ⟨⟨v9, b9, x9, rfl, hi9, HB9⟩, hb9⟩; have hB9 : Below wc.heap.size wc w9 := bthen (by repeat (first | exact Below.refl _ _ | exact hB5 | refine Below.drew ?_ | refine below_drewN ?_ _ | refine bset ?_ (by simp <;> omega) _ | refine bal ?_ _)) hb9; have r09 := bkeep hB9 r0; have r19 := bkeep hB9 r1; have r09f := bkeepf hB9 r0 r0f; have r19f := bkeepf hB9 r1 r1f; have HI9 := Lib.hid hi9; obtain ⟨n9, a9, c9, l9, rfl, -⟩ := hi9; unfold iv at *)))
      all_goals
        clear oc mc
        go_wp2
        refine bodyPost_ret (v := .tuple #[.agg #[.bool n9, .slice a9 l9.length c9], .bool b9]) (by simp [results, Tryd.results85, go_sem, *]) rfl ?_
        have hB99 := bthen hBc hB9
      all_goals
        refine ansP_b ⟨fun h => ?_, fun h => ?_⟩ (HI9.out.put2 r09 r19 _ _) ?_
        · simp [opI, (HB9.out.1 h).1, (HB9.out.1 h).2]
        · simp [opI, HB9.out.2 h]
        ·
          repeat (first | exact Below.refl _ _ | exact hB99 | refine Below.drew ?_ | refine below_drewN ?_ _ | refine bset ?_ (by simp <;> omega) _ | refine bal ?_ _)
end Go.Proofs.YtannhpadoooedaaDoor
/- exact, in plain Lean: what a program makes of numbers; columns of a grid. -/
namespace Go.Proofs.YtannhpadoooedaaDoor
open Num
set_option linter.unusedVariables false
set_option linter.unusedSimpArgs false
/-- the registers behind n instructions, each of which holds a number; none: one of them has failed -/
def afterN (code : List Ins) (r : List Int) : Nat → Option (List Int)
  | 0 => some r
  | n + 1 => (afterN code r n).bind fun s => (opI (code.getD n default) (s.getD (code.getD n default).a.toNat 0) (s.getD (code.getD n default).b.toNat 0)).map fun x => s.set (code.getD n default).to.toNat x
theorem afterN_succ {code : List Ins} {r s : List Int} {n : Nat} (e : afterN code r n = some s) : afterN code r (n + 1) = (opI (code.getD n default) (s.getD (code.getD n default).a.toNat 0) (s.getD (code.getD n default).b.toNat 0)).map fun x => s.set (code.getD n default).to.toNat x := by
  rw [afterN, e]; rfl
theorem afterN_len {code : List Ins} {r : List Int} : ∀ {n : Nat} {s : List Int}, afterN code r n = some s → s.length = r.length := by
  intro n
  induction n with
  | zero => intro s e; cases e; rfl
  | succ n ih =>
    intro s e
    unfold afterN at e
    cases e1 : afterN code r n with
    | none => rw [e1] at e; cases e
    | some s1 =>
      rw [e1, Option.bind_some] at e
      obtain ⟨x, _, rfl⟩ := Option.map_eq_some_iff.1 e
      rw [List.length_set]; exact ih e1
theorem afterN_mono {code : List Ins} {r : List Int} {n m : Nat} (h : afterN code r n = none) (hm : n ≤ m) : afterN code r m = none := by
  induction m with
  | zero => obtain rfl : n = 0 := by omega
            exact h
  | succ m ih =>
    by_cases e : n = m + 1
    · subst e; exact h
    · unfold afterN; rw [ih (by omega)]; rfl
theorem afterN_uniq {code : List Ins} {r : List Int} {n m : Nat} (h1 : ∃ h, afterN code r n = some h) (h2 : afterN code r (n + 1) = none) (k1 : ∃ h, afterN code r m = some h) (k2 : afterN code r (m + 1) = none) : n = m := by
  obtain ⟨h, h1⟩ := h1
  obtain ⟨k, k1⟩ := k1
  rcases Nat.lt_trichotomy n m with e | e | e
  · rw [afterN_mono h2 (show n + 1 ≤ m by omega)] at k1; cases k1
  · exact e
  · rw [afterN_mono k2 (show m + 1 ≤ n by omega)] at h1; cases h1
theorem set_bd {s : List Int} {k t : Nat} {x : Int} (hs : ∀ j, Bd k (s.getD j 0)) (hx : Bd k x) : ∀ j, Bd k ((s.set t x).getD j 0) := by
  intro j
  by_cases e : t = j
  · subst e
    by_cases hl : t < s.length
    · have : (s.set t x).getD t 0 = x := by simp [hl]
      rw [this]; exact hx
    · rw [List.set_eq_of_length_le (by omega)]; exact hs t
  · have : (s.set t x).getD j 0 = s.getD j 0 := by simp [List.getElem?_set_ne e]
    rw [this]; exact hs j
theorem afterN_bd {code : List Ins} {r : List Int} {k : Nat} (hr : ∀ j, Bd k (r.getD j 0)) (hc : Cs code) : ∀ {n : Nat} {s : List Int}, n ≤ code.length → afterN code r n = some s → ∀ j, Bd (k + 65 * n) (s.getD j 0) := by
  intro n
  induction n with
  | zero => intro s _ e; cases e; exact hr
  | succ n ih =>
    intro s hn e
    unfold afterN at e
    cases e1 : afterN code r n with
    | none => rw [e1] at e; cases e
    | some s1 =>
      rw [e1, Option.bind_some] at e
      obtain ⟨x, hx, rfl⟩ := Option.map_eq_some_iff.1 e
      have h2 := ih (by omega) e1
      have h3 := opI_bd hx (h2 _) (h2 _) (hc n (by omega)).1 (hc n (by omega)).2
      exact set_bd (fun j => (h2 j).mono (by omega)) (h3.mono (by omega))
/-- a column of a grid -/
def colG (g : Grid) (k : Nat) : List Int := g.map fun r => r.getD k 0
theorem colG_len (g : Grid) (k : Nat) : (colG g k).length = g.length := by simp [colG]
theorem colG_get (g : Grid) (k j : Nat) : (colG g k).getD j 0 = (g.getD j []).getD k 0 := by
  unfold colG
  by_cases h : j < g.length
  · simp [List.getD_eq_getElem?_getD, h]
  · simp [List.getD_eq_getElem?_getD, List.getElem?_eq_none (Nat.le_of_not_lt h)]
theorem colG_set (g : Grid) (k t : Nat) (r : List Int) : colG (g.set t r) k = (colG g k).set t (r.getD k 0) := by
  unfold colG
  rw [List.map_set]
/-- a step on rows, at a place -/
theorem col_step {code : List Ins} {h : Grid} {m n k : Nat} {r : List Int} (hR : (h.getD (code.getD n default).a.toNat []).length = m) (hk : k < m) (e : stepR (code.getD n default) (h.getD (code.getD n default).a.toNat []) (h.getD (code.getD n default).b.toNat []) = some r) :
    opI (code.getD n default) ((colG h k).getD (code.getD n default).a.toNat 0) ((colG h k).getD (code.getD n default).b.toNat 0) = some (r.getD k 0) := by
  rw [colG_get, colG_get]
  exact stepR_get e k (by omega)
/-- a run on rows is a run at each place -/
theorem col_after {code : List Ins} {g : Grid} {m k regs : Nat} (hg : Rect m g) (hlen : g.length = regs) (ha : ∀ n, n < code.length → (code.getD n default).a.toNat < regs) (hk : k < m) : ∀ {n : Nat} {h : Grid}, n ≤ code.length → after code g n = some h → afterN code (colG g k) n = some (colG h k) := by
  intro n
  induction n with
  | zero => intro h _ e; cases e; rfl
  | succ n ih =>
    intro h hn e
    unfold after at e
    cases e1 : after code g n with
    | none => rw [e1] at e; cases e
    | some h1 =>
      rw [e1, Option.bind_some] at e
      obtain ⟨r, hr, rfl⟩ := Option.map_eq_some_iff.1 e
      have hR := after_rect hg hlen ha (by omega) e1
      have h2 := hR (code.getD n default).a.toNat (by rw [after_len e1, hlen]; exact ha n (by omega))
      rw [afterN_succ (ih (by omega) e1), col_step h2 hk hr, Option.map_some, colG_set]
/-- where a run on rows fails, one at a place fails -/
theorem col_fail {code : List Ins} {g h : Grid} {m n regs : Nat} (hg : Rect m g) (hlen : g.length = regs) (ha : ∀ n, n < code.length → (code.getD n default).a.toNat < regs) (hn : n < code.length) (e : after code g n = some h) (e2 : after code g (n + 1) = none) : ∃ k, k < m ∧ afterN code (colG g k) (n + 1) = none := by
  have hs : stepR (code.getD n default) (h.getD (code.getD n default).a.toNat []) (h.getD (code.getD n default).b.toNat []) = none := by
    unfold after at e2
    rw [e, Option.bind_some] at e2
    exact Option.map_eq_none_iff.1 e2
  obtain ⟨k, hk, ho⟩ := stepR_none hs
  have hR := after_rect hg hlen ha (by omega) e
  have h2 := hR (code.getD n default).a.toNat (by rw [after_len e, hlen]; exact ha n (by omega))
  refine ⟨k, by omega, ?_⟩
  rw [afterN_succ (col_after hg hlen ha (by omega) (by omega) e), colG_get, colG_get, ho]; rfl
end Go.Proofs.YtannhpadoooedaaDoor
