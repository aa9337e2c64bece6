/- Texts of this seat, laid together: ExB, ExC, ExD, VmG, VmH, ExE, Dec, TxtR, TxtL. Each opens with its own remark, which says what it proves, and under which conditions. -/
import Derived.Test.YtannhpadoooedaaGreatDoorQ07
import Derived.Test.YtannhpadoooedaaGreatDoorQ05
import Derived.Deep.Cut
import Derived.Deep.DeepCutAuto
import Derived.Test.YtannhpadoooedaaGreatDoorQ06
import Derived.Test.YtannhpadoooedaaGreatDoorQ02
import Derived.Deep.LoopGhost
import Derived.Test.YtannhpadoooedaaGreatDoorQ03
import Derived.Test.YtannhpadoooedaaGreatDoorQ04
import Derived.Laws.CopyRow
import Derived.Laws.Rows
import Derived.Laws.Tables
import Derived.Deep.DrawnRows
import Derived.Deep.RegionLaw
import Derived.Test.YtannhpadoooedaaGreatDoorQ01
import Derived.Laws.IdiomStrings
import Derived.Laws.BytesArg
import Derived.Deep.DeepFit
set_option linter.unusedVariables false
set_option linter.unusedSimpArgs false
/- exact: what an instruction does to numbers (do). -/
namespace Go.Proofs.YtannhpadoooedaaGreatDoor
open Num
open Go.ChangeShapes Go.WideShapes Go.ChangeAt Go.RowKit
set_option linter.unusedVariables false
set_option linter.unusedSimpArgs false
attribute [local go_sem ↓] Go.wp_at_zero Go.wp_at_succ
theorem ansP_b {z : Option Int} {x : Int} {v : Value} {b : Bool} {w w' : World} (h : (b = true → z = some x) ∧ (b = false → z = none)) (hv : IsInt w' v x) (hb : Below w.heap.size w w') : AnsP z w (.returned (.tuple #[v, .bool b])) w' := by
  cases b with
  | true => exact ansP_some (h.1 rfl) hv hb
  | false => exact ansP_none (h.2 rfl) hv hb
theorem nover_any (va vc : Value) (a c : Int) (k : Nat) (w : World) (hx : IsInt w va a) (hy : IsInt w vc c) (bx : Bd k a) (bY : Bd k c) (hk : k ≤ 17179869184) (h0 : c ≠ 0) :
    Calls Tryz.prog 104 #[va, vc] w fun e w' => (∃ v b x, e = .returned (.tuple #[v, .bool b]) ∧ IsInt w' v x ∧ Hid ((b = true → a % c = 0 ∧ x = a / c) ∧ (b = false → a % c ≠ 0))) ∧ Below w.heap.size w w' := by
  by_cases hd : a % c = 0
  · refine (nover_yes va vc a c k w hx hy bx bY hk h0 hd).mono ?_
    rintro e w' ⟨⟨v, rfl, hv⟩, hb⟩
    exact ⟨⟨v, true, _, rfl, hv, Lib.hid ⟨fun _ => ⟨hd, rfl⟩, fun h => by cases h⟩⟩, hb⟩
  · refine (nover_no va vc a c k w hx hy bx bY hk h0 hd).mono ?_
    rintro e w' ⟨⟨v, x, rfl, hv⟩, hb⟩
    exact ⟨⟨v, false, x, rfl, hv, Lib.hid ⟨(fun h => by cases h), fun _ => hd⟩⟩, hb⟩
/-- how numbers are calculated with -/
def numV : Value := .agg #[.func (.func 101) #[] #[], .func (.func 102) #[] #[], .func (.func 103) #[] #[], .func (.func 96) #[] #[], .func (.func 104) #[] #[]]
theorem numbers_c (w : World) : Calls Tryz.prog 58 #[] w fun e w' => e = .returned numV ∧ Below w.heap.size w w' := by
  have hB := Below.refl w.heap.size w
  go_enter Tryz.func58, Tryz.ntmps58
  go_wp2
  refine bodyPost_ret (v := numV) (by simp [numV, results, Tryz.results58, go_sem, *]) rfl ⟨rfl, ?_⟩
  repeat (first | exact Below.refl _ _ | exact hB | refine Below.drew ?_ | refine below_drewN ?_ _ | refine bset ?_ (by simp <;> omega) _ | refine bal ?_ _)
set_option maxRecDepth 100000 in
set_option maxHeartbeats 16000000 in
theorem doN_c (i : Ins) (k rb n : Nat) (f : Nat → Int) (w : World) (hr : IntsF IsInt w rb 0 n f) (hi : InsOk i n) (hb : ∀ j, j < n → Bd k (f j)) (hk : k ≤ 4294967296) (hn : n ≤ 128) :
    Calls Tryz.prog 100 #[numV, .slice (some ⟨rb, 0, none⟩) n n, i.v] w (AnsP (opI i (f i.a.toNat) (f i.b.toNat)) w) := by
  obtain ⟨o1, o2, t0, t1, a0, a1, b0, b1, hc⟩ := hi
  obtain ⟨op, it, ia, ib, ic⟩ := i
  dsimp only at o1 o2 t0 t1 a0 a1 b0 b1 hc ⊢
  obtain ⟨na, rfl⟩ : ∃ x : Nat, ia = x := ⟨ia.toNat, by omega⟩
  obtain ⟨nb, rfl⟩ : ∃ x : Nat, ib = x := ⟨ib.toNat, by omega⟩
  have a1' : na < n := by omega
  have b1' : nb < n := by omega
  rw [Int.toNat_natCast, Int.toNat_natCast]
  obtain ⟨n1, ad1, l1, c1, x0, x1, hx⟩ := hr.at0 a1'
  obtain ⟨n2, ad2, l2, c2, y0, y1, hy⟩ := hr.at0 b1'
  have bx := hb na a1'
  have bY := hb nb b1'
  obtain ⟨a, haE⟩ : ∃ a, f na = a := ⟨_, rfl⟩
  obtain ⟨b, hbE⟩ : ∃ b, f nb = b := ⟨_, rfl⟩
  rw [haE] at hx bx ⊢
  rw [hbE] at hy bY ⊢
  clear haE hbE hb hr t0 t1 a0 a1 b0 b1
  have HX := Lib.hid hx
  have HY := Lib.hid hy
  have HC := Lib.hid hc
  have HBD := Lib.hid (And.intro bx bY)
  have hga : (na : Int) < (n : Int) := by omega
  have hgb : (nb : Int) < (n : Int) := by omega
  clear hx hy hc bx bY
  have zrb := cell_lt x0
  have hB := Below.refl w.heap.size w
  unfold Ins.v numV
  dsimp only
  go_enter Tryz.func100, Tryz.ntmps100
  go_wp2
  refine wp_name fun w0 hW0 => ?_
  have f0 : w0.cell? ⟨w.heap.size, 0, none⟩ = some (.func (.func 101) #[] #[]) := by rw [hW0]; exact (by first | assumption | exact cell_new (by with_reducible first | rfl | (simp; done) | (simp; omega)) rfl | (repeat (first | assumption | exact cell_new (by with_reducible first | rfl | (simp; done) | (simp; omega)) rfl | refine cell_alloc ?_ _ | refine cell_drew ?_ | refine cell_drewN ?_ _ | refine cell_far ?_ (by simp) _ | (refine cell_far ?_ (by simp <;> omega) _))) | simp [go_sem, *])
  have zf0 := cell_lt f0
  have f1 : w0.cell? ⟨w.heap.size, 1, none⟩ = some (.func (.func 102) #[] #[]) := by rw [hW0]; exact (by first | assumption | exact cell_new (by with_reducible first | rfl | (simp; done) | (simp; omega)) rfl | (repeat (first | assumption | exact cell_new (by with_reducible first | rfl | (simp; done) | (simp; omega)) rfl | refine cell_alloc ?_ _ | refine cell_drew ?_ | refine cell_drewN ?_ _ | refine cell_far ?_ (by simp) _ | (refine cell_far ?_ (by simp <;> omega) _))) | simp [go_sem, *])
  have f2 : w0.cell? ⟨w.heap.size, 2, none⟩ = some (.func (.func 103) #[] #[]) := by rw [hW0]; exact (by first | assumption | exact cell_new (by with_reducible first | rfl | (simp; done) | (simp; omega)) rfl | (repeat (first | assumption | exact cell_new (by with_reducible first | rfl | (simp; done) | (simp; omega)) rfl | refine cell_alloc ?_ _ | refine cell_drew ?_ | refine cell_drewN ?_ _ | refine cell_far ?_ (by simp) _ | (refine cell_far ?_ (by simp <;> omega) _))) | simp [go_sem, *])
  have f3 : w0.cell? ⟨w.heap.size, 3, none⟩ = some (.func (.func 96) #[] #[]) := by rw [hW0]; exact (by first | assumption | exact cell_new (by with_reducible first | rfl | (simp; done) | (simp; omega)) rfl | (repeat (first | assumption | exact cell_new (by with_reducible first | rfl | (simp; done) | (simp; omega)) rfl | refine cell_alloc ?_ _ | refine cell_drew ?_ | refine cell_drewN ?_ _ | refine cell_far ?_ (by simp) _ | (refine cell_far ?_ (by simp <;> omega) _))) | simp [go_sem, *])
  have f4 : w0.cell? ⟨w.heap.size, 4, none⟩ = some (.func (.func 104) #[] #[]) := by rw [hW0]; exact (by first | assumption | exact cell_new (by with_reducible first | rfl | (simp; done) | (simp; omega)) rfl | (repeat (first | assumption | exact cell_new (by with_reducible first | rfl | (simp; done) | (simp; omega)) rfl | refine cell_alloc ?_ _ | refine cell_drew ?_ | refine cell_drewN ?_ _ | refine cell_far ?_ (by simp) _ | (refine cell_far ?_ (by simp <;> omega) _))) | simp [go_sem, *])
  have i0 : w0.cell? ⟨w.heap.size + 1, 0, none⟩ = some (.int .i64 op) := by rw [hW0]; exact (by first | assumption | exact cell_new (by with_reducible first | rfl | (simp; done) | (simp; omega)) rfl | (repeat (first | assumption | exact cell_new (by with_reducible first | rfl | (simp; done) | (simp; omega)) rfl | refine cell_alloc ?_ _ | refine cell_drew ?_ | refine cell_drewN ?_ _ | refine cell_far ?_ (by simp) _ | (refine cell_far ?_ (by simp <;> omega) _))) | simp [go_sem, *])
  have zi0 := cell_lt i0
  have i2 : w0.cell? ⟨w.heap.size + 1, 2, none⟩ = some (.int .i64 na) := by rw [hW0]; exact (by first | assumption | exact cell_new (by with_reducible first | rfl | (simp; done) | (simp; omega)) rfl | (repeat (first | assumption | exact cell_new (by with_reducible first | rfl | (simp; done) | (simp; omega)) rfl | refine cell_alloc ?_ _ | refine cell_drew ?_ | refine cell_drewN ?_ _ | refine cell_far ?_ (by simp) _ | (refine cell_far ?_ (by simp <;> omega) _))) | simp [go_sem, *])
  have i3 : w0.cell? ⟨w.heap.size + 1, 3, none⟩ = some (.int .i64 nb) := by rw [hW0]; exact (by first | assumption | exact cell_new (by with_reducible first | rfl | (simp; done) | (simp; omega)) rfl | (repeat (first | assumption | exact cell_new (by with_reducible first | rfl | (simp; done) | (simp; omega)) rfl | refine cell_alloc ?_ _ | refine cell_drew ?_ | refine cell_drewN ?_ _ | refine cell_far ?_ (by simp) _ | (refine cell_far ?_ (by simp <;> omega) _))) | simp [go_sem, *])
  have i4 : w0.cell? ⟨w.heap.size + 1, 4, none⟩ = some (.int .i64 ic) := by rw [hW0]; exact (by first | assumption | exact cell_new (by with_reducible first | rfl | (simp; done) | (simp; omega)) rfl | (repeat (first | assumption | exact cell_new (by with_reducible first | rfl | (simp; done) | (simp; omega)) rfl | refine cell_alloc ?_ _ | refine cell_drew ?_ | refine cell_drewN ?_ _ | refine cell_far ?_ (by simp) _ | (refine cell_far ?_ (by simp <;> omega) _))) | simp [go_sem, *])
  have r0f : w0.frozen? ⟨w.heap.size + 2, 0, none⟩ = false := by rw [hW0]; simp [go_sem, *]
  have r0 : w0.cell? ⟨w.heap.size + 2, 0, none⟩ = some (.bool false) := by rw [hW0]; exact (by first | assumption | exact cell_new (by with_reducible first | rfl | (simp; done) | (simp; omega)) rfl | (repeat (first | assumption | exact cell_new (by with_reducible first | rfl | (simp; done) | (simp; omega)) rfl | refine cell_alloc ?_ _ | refine cell_drew ?_ | refine cell_drewN ?_ _ | refine cell_far ?_ (by simp) _ | (refine cell_far ?_ (by simp <;> omega) _))) | simp [go_sem, *])
  have zr0 := cell_lt r0
  have r1f : w0.frozen? ⟨w.heap.size + 2, 1, none⟩ = false := by rw [hW0]; simp [go_sem, *]
  have r1 : w0.cell? ⟨w.heap.size + 2, 1, none⟩ = some (.slice none 0 0) := by rw [hW0]; exact (by first | assumption | exact cell_new (by with_reducible first | rfl | (simp; done) | (simp; omega)) rfl | (repeat (first | assumption | exact cell_new (by with_reducible first | rfl | (simp; done) | (simp; omega)) rfl | refine cell_alloc ?_ _ | refine cell_drew ?_ | refine cell_drewN ?_ _ | refine cell_far ?_ (by simp) _ | (refine cell_far ?_ (by simp <;> omega) _))) | simp [go_sem, *])
  have hB : Below w.heap.size w w0 := by rw [hW0]; repeat (first | exact Below.refl _ _ | exact hB | refine Below.drew ?_ | refine below_drewN ?_ _ | refine bset ?_ (by simp <;> omega) _ | refine bal ?_ _)
  have hz : w.heap.size ≤ w0.heap.size := hB.size
  clear hW0
  have HS := Lib.hid (show ∀ W, Below w0.heap.size w0 W → W.cell? ⟨w.heap.size + 1, 2, none⟩ = some (.int .i64 na) ∧ W.cell? ⟨w.heap.size + 1, 3, none⟩ = some (.int .i64 nb) ∧ W.cell? ⟨rb, na * 2, none⟩ = some (.bool n1) ∧ W.cell? ⟨rb, na * 2 + 1, none⟩ = some (.slice ad1 l1 c1) ∧ W.cell? ⟨rb, nb * 2, none⟩ = some (.bool n2) ∧ W.cell? ⟨rb, nb * 2 + 1, none⟩ = some (.slice ad2 l2 c2) from fun W h => ⟨bkeep h i2, bkeep h i3, bkeep (bthen hB h) x0, bkeep (bthen hB h) x1, bkeep (bthen hB h) y0, bkeep (bthen hB h) y1⟩)
  have HP := Lib.hid (show ∀ W, Below w0.heap.size w0 W → (W.cell? ⟨w.heap.size, 0, none⟩ = some (.func (.func 101) #[] #[]) ∧ W.cell? ⟨w.heap.size, 1, none⟩ = some (.func (.func 102) #[] #[]) ∧ W.cell? ⟨w.heap.size, 2, none⟩ = some (.func (.func 103) #[] #[]) ∧ W.cell? ⟨w.heap.size, 3, none⟩ = some (.func (.func 96) #[] #[]) ∧ W.cell? ⟨w.heap.size, 4, none⟩ = some (.func (.func 104) #[] #[])) ∧ W.cell? ⟨w.heap.size + 1, 0, none⟩ = some (.int .i64 op) ∧ W.cell? ⟨w.heap.size + 1, 4, none⟩ = some (.int .i64 ic) ∧ W.cell? ⟨w.heap.size + 2, 0, none⟩ = some (.bool false) ∧ W.cell? ⟨w.heap.size + 2, 1, none⟩ = some (.slice none 0 0) ∧ W.frozen? ⟨w.heap.size + 2, 0, none⟩ = false ∧ W.frozen? ⟨w.heap.size + 2, 1, none⟩ = false from fun W h => ⟨⟨bkeep h f0, bkeep h f1, bkeep h f2, bkeep h f3, bkeep h f4⟩, bkeep h i0, bkeep h i4, bkeep h r0, bkeep h r1, bkeepf h r0 r0f, bkeepf h r1 r1f⟩)
  have zrb0 : rb < w0.heap.size := by omega
  have zi0 : w.heap.size + 1 < w0.heap.size := zi0
  have hBw := Below.refl w0.heap.size w0
  clear f0 f1 f2 f3 f4 i0 i2 i3 i4 r0 r1 r0f r1f x0 x1 y0 y1
  go_cut [8, 9] (fun p q wx => ∃ g h : Nat, p = .pointer (some ⟨g, 0, none⟩) ∧ q = .pointer (some ⟨h, 0, none⟩) ∧ wx.cell? ⟨g, 0, none⟩ = some (.bool n1) ∧ wx.cell? ⟨g, 1, none⟩ = some (.slice ad1 l1 c1) ∧ wx.cell? ⟨h, 0, none⟩ = some (.bool n2) ∧ wx.cell? ⟨h, 1, none⟩ = some (.slice ad2 l2 c2) ∧ Below w0.heap.size w0 wx)
  case first =>
    go_region_held3 (fun w' => w'.cell? ⟨w.heap.size + 1, 2, none⟩ = some (.int .i64 na) ∧ w'.cell? ⟨w.heap.size + 1, 3, none⟩ = some (.int .i64 nb) ∧ w'.cell? ⟨rb, na * 2, none⟩ = some (.bool n1) ∧ w'.cell? ⟨rb, na * 2 + 1, none⟩ = some (.slice ad1 l1 c1) ∧ w'.cell? ⟨rb, nb * 2, none⟩ = some (.bool n2) ∧ w'.cell? ⟨rb, nb * 2 + 1, none⟩ = some (.slice ad2 l2 c2))
      (first | (refine HS.out _ ?_; (repeat (first | exact Below.refl _ _ | exact hBw | refine Below.drew ?_ | refine below_drewN ?_ _ | refine bset ?_ (by simp <;> omega) _ | refine bal ?_ _)); done) | fail)
      (fail)
    all_goals
      go_wp2_with fail
      go_meet
      refine ⟨_, _, rfl, rfl, ?_, ?_, ?_, ?_, ?_⟩
      · repeat (first | (refine cell_new ?_ rfl; first | (with_reducible rfl) | (simp only [World.size_alloc]; done)) | (with_reducible refine cell_drew ?_) | (with_reducible refine cell_alloc ?_ _))
      · repeat (first | (refine cell_new ?_ rfl; first | (with_reducible rfl) | (simp only [World.size_alloc]; done)) | (with_reducible refine cell_drew ?_) | (with_reducible refine cell_alloc ?_ _))
      · repeat (first | (refine cell_new ?_ rfl; first | (with_reducible rfl) | (simp only [World.size_alloc]; done)) | (with_reducible refine cell_drew ?_) | (with_reducible refine cell_alloc ?_ _))
      · repeat (first | (refine cell_new ?_ rfl; first | (with_reducible rfl) | (simp only [World.size_alloc]; done)) | (with_reducible refine cell_drew ?_) | (with_reducible refine cell_alloc ?_ _))
      ·
        repeat (first | exact Below.refl _ _ | exact hBw | refine Below.drew ?_ | refine below_drewN ?_ _ | refine bset ?_ (by simp <;> omega) _ | refine bal ?_ _)
  case rest =>
    obtain ⟨g, h, rfl, rfl, g0, g1, h0, h1, hbc⟩ := hcut
    obtain ⟨⟨f0, f1, f2, f3, f4⟩, i0, i4, r0, r1, r0f, r1f⟩ := HP.out wc hbc
    have hBc := bthen hB hbc
    have HXC := Lib.hid (HX.out.keep hBc)
    have HYC := Lib.hid (HY.out.keep hBc)
    have zg := cell_lt g0
    have zh := cell_lt h0
    have zr := cell_lt r0
    have hBw := Below.refl wc.heap.size wc
    clear hbc HS HP
    have nx := fun W (k : Below wc.heap.size wc W) => neg_c _ a W (HXC.out.keep k)
    have ax := fun W (q : Below wc.heap.size wc W) => addI_c _ _ a b k W (HXC.out.keep q) (HYC.out.keep q) HBD.out.1 HBD.out.2 (by omega)
    have sx := fun W (q : Below wc.heap.size wc W) => subI_c _ _ a b k W (HXC.out.keep q) (HYC.out.keep q) HBD.out.1 HBD.out.2 (by omega)
    have hop : op = 1 ∨ op = 2 ∨ op = 3 ∨ op = 4 ∨ op = 5 ∨ op = 6 ∨ op = 7 ∨ op = 8 := by omega
    clear o1 o2
    rcases hop with rfl | rfl | rfl | rfl | rfl | rfl | rfl | rfl
    · go_wp2
      refine bodyPost_ret (v := .tuple #[.agg #[.bool n1, .slice ad1 l1 c1], .bool true]) (by simp [results, Tryz.results100, go_sem, *]) rfl (ansP_some (by simp [opI]) (HXC.out.put2 r0 r1 _ _) ?_)
      repeat (first | exact Below.refl _ _ | exact hBc | refine Below.drew ?_ | refine below_drewN ?_ _ | refine bset ?_ (by simp <;> omega) _ | refine bal ?_ _)
    ·
      go_wp2_with fail
      refine (nx _ (by repeat (first | exact Below.refl _ _ | exact hBw | refine Below.drew ?_ | refine below_drewN ?_ _ | refine bset ?_ (by simp <;> omega) _ | refine bal ?_ _))).mono ?_
      rintro e w9 ⟨⟨v9, rfl, hi9⟩, hb9⟩
      have hB9 : Below wc.heap.size wc w9 := bthen (by repeat (first | exact Below.refl _ _ | exact hBw | refine Below.drew ?_ | refine below_drewN ?_ _ | refine bset ?_ (by simp <;> omega) _ | refine bal ?_ _)) hb9
      have HI9 := Lib.hid hi9
      obtain ⟨n9, a9, c9, l9, rfl, -⟩ := hi9
      unfold iv at *
      have r09f := bkeepf hB9 r0 r0f
      have r19f := bkeepf hB9 r1 r1f
      have r09 := bkeep hB9 r0
      have r19 := bkeep hB9 r1
      go_wp2
      refine bodyPost_ret (v := .tuple #[.agg #[.bool n9, .slice a9 l9.length c9], .bool true]) (by simp [results, Tryz.results100, go_sem, *]) rfl (ansP_some (by simp [opI]) (HI9.out.put2 r09 r19 _ _) ?_)
      have hB99 := bthen hBc hB9
      repeat (first | exact Below.refl _ _ | exact hB99 | refine Below.drew ?_ | refine below_drewN ?_ _ | refine bset ?_ (by simp <;> omega) _ | refine bal ?_ _)
    ·
      go_wp2_with fail
      refine (ax _ (by repeat (first | exact Below.refl _ _ | exact hBw | refine Below.drew ?_ | refine below_drewN ?_ _ | refine bset ?_ (by simp <;> omega) _ | refine bal ?_ _))).mono ?_
      rintro e w9 ⟨⟨v9, rfl, hi9⟩, hb9⟩
      have hB9 : Below wc.heap.size wc w9 := bthen (by repeat (first | exact Below.refl _ _ | exact hBw | refine Below.drew ?_ | refine below_drewN ?_ _ | refine bset ?_ (by simp <;> omega) _ | refine bal ?_ _)) hb9
      have HI9 := Lib.hid hi9
      obtain ⟨n9, a9, c9, l9, rfl, -⟩ := hi9
      unfold iv at *
      have r09f := bkeepf hB9 r0 r0f
      have r19f := bkeepf hB9 r1 r1f
      have r09 := bkeep hB9 r0
      have r19 := bkeep hB9 r1
      go_wp2
      refine bodyPost_ret (v := .tuple #[.agg #[.bool n9, .slice a9 l9.length c9], .bool true]) (by simp [results, Tryz.results100, go_sem, *]) rfl (ansP_some (by simp [opI]) (HI9.out.put2 r09 r19 _ _) ?_)
      have hB99 := bthen hBc hB9
      repeat (first | exact Below.refl _ _ | exact hB99 | refine Below.drew ?_ | refine below_drewN ?_ _ | refine bset ?_ (by simp <;> omega) _ | refine bal ?_ _)
    ·
      go_wp2_with fail
      refine (sx _ (by repeat (first | exact Below.refl _ _ | exact hBw | refine Below.drew ?_ | refine below_drewN ?_ _ | refine bset ?_ (by simp <;> omega) _ | refine bal ?_ _))).mono ?_
      rintro e w9 ⟨⟨v9, rfl, hi9⟩, hb9⟩
      have hB9 : Below wc.heap.size wc w9 := bthen (by repeat (first | exact Below.refl _ _ | exact hBw | refine Below.drew ?_ | refine below_drewN ?_ _ | refine bset ?_ (by simp <;> omega) _ | refine bal ?_ _)) hb9
      have HI9 := Lib.hid hi9
      obtain ⟨n9, a9, c9, l9, rfl, -⟩ := hi9
      unfold iv at *
      have r09f := bkeepf hB9 r0 r0f
      have r19f := bkeepf hB9 r1 r1f
      have r09 := bkeep hB9 r0
      have r19 := bkeep hB9 r1
      go_wp2
      refine bodyPost_ret (v := .tuple #[.agg #[.bool n9, .slice a9 l9.length c9], .bool true]) (by simp [results, Tryz.results100, go_sem, *]) rfl (ansP_some (by simp [opI]) (HI9.out.put2 r09 r19 _ _) ?_)
      have hB99 := bthen hBc hB9
      repeat (first | exact Below.refl _ _ | exact hB99 | refine Below.drew ?_ | refine below_drewN ?_ _ | refine bset ?_ (by simp <;> omega) _ | refine bal ?_ _)
    · rw [constB_mul (.inl rfl)] at HC
      have hc := of_decide_eq_true HC.out
      clear nx ax sx f0 f1 f2 h0 h1 zh zrb0 zi0 zrb hga hgb a1' b1'
      have oc := fun W => of_c ic W (by omega) (by omega)
      have mc := fun vz W (q : Below wc.heap.size wc W) (hz : IsInt W vz ic) => mul_c _ vz a ic k 10 W (HXC.out.keep q) hz HBD.out.1 (const_bd hc.2.1 hc.2.2 (Nat.le_refl _)) (by omega) (by omega)
      go_wp2
      go_region_law (go_simp; go_wp2_with (first
        | (go_at_call 27; refine (oc _).mono ?_; rintro e w5 ⟨⟨v5, rfl, hi5⟩, hb5⟩; have hB5 : Below wc.heap.size wc w5 := bthen (by repeat (first | exact Below.refl _ _ | exact hBw | refine Below.drew ?_ | refine below_drewN ?_ _ | refine bset ?_ (by simp <;> omega) _ | refine bal ?_ _)) hb5; have HI5 := Lib.hid hi5; have f35 := bkeep hB5 f3; have f45 := bkeep hB5 f4; have g05 := bkeep hB5 g0; have g15 := bkeep hB5 g1; obtain ⟨n5, a5, c5, l5, rfl, -⟩ := hi5; unfold iv at *)
        | (go_at_call 96; refine (mc _ _ ?_ ?_).mono ?_; (repeat (first | exact Below.refl _ _ | exact hB5 | refine Below.drew ?_ | refine below_drewN ?_ _ | refine bset ?_ (by simp <;> omega) _ | refine bal ?_ _)); (refine HI5.out.keep ?_; have hBz := Below.refl w5.heap.size w5; (repeat (first | exact Below.refl _ _ | exact hBz | refine Below.drew ?_ | refine below_drewN ?_ _ | refine bset ?_ (by simp <;> omega) _ | refine bal ?_ _))); rintro e w9 ⟨⟨v9, rfl, hi9⟩, hb9⟩; have hB9 : Below wc.heap.size wc w9 := bthen (by repeat (first | exact Below.refl _ _ | exact hB5 | refine Below.drew ?_ | refine below_drewN ?_ _ | refine bset ?_ (by simp <;> omega) _ | refine bal ?_ _)) hb9; have r09 := bkeep hB9 r0; have r19 := bkeep hB9 r1; have r09f := bkeepf hB9 r0 r0f; have r19f := bkeepf hB9 r1 r1f; have HI9 := Lib.hid hi9; obtain ⟨n9, a9, c9, l9, rfl, -⟩ := hi9; unfold iv at *)))
      all_goals
        clear oc mc
        go_wp2
        refine bodyPost_ret (v := .tuple #[.agg #[.bool n9, .slice a9 l9.length c9], .bool true]) (by simp [results, Tryz.results100, go_sem, *]) rfl ?_
        have hB99 := bthen hBc hB9
      all_goals
        refine ansP_some (by simp [opI]) (HI9.out.put2 r09 r19 _ _) ?_
        repeat (first | exact Below.refl _ _ | exact hB99 | refine Below.drew ?_ | refine below_drewN ?_ _ | refine bset ?_ (by simp <;> omega) _ | refine bal ?_ _)
    · rw [constB_mul (.inr rfl)] at HC
      have hc := of_decide_eq_true HC.out
      clear nx ax sx f0 f1 f2 h0 h1 zh zrb0 zi0 zrb hga hgb a1' b1'
      have oc := fun W => of_c ic W (by omega) (by omega)
      have mc := fun vz W (q : Below wc.heap.size wc W) (hz : IsInt W vz ic) => nover_any _ vz a ic (k + 65) W (HXC.out.keep q) hz (HBD.out.1.mono (by omega)) (const_bd hc.2.1 hc.2.2 (by omega)) (by omega) hc.1
      go_wp2
      go_region_law (go_simp; go_wp2_with (first
        | (go_at_call 27; refine (oc _).mono ?_; rintro e w5 ⟨⟨v5, rfl, hi5⟩, hb5⟩; have hB5 : Below wc.heap.size wc w5 := bthen (by repeat (first | exact Below.refl _ _ | exact hBw | refine Below.drew ?_ | refine below_drewN ?_ _ | refine bset ?_ (by simp <;> omega) _ | refine bal ?_ _)) hb5; have HI5 := Lib.hid hi5; have f35 := bkeep hB5 f3; have f45 := bkeep hB5 f4; have g05 := bkeep hB5 g0; have g15 := bkeep hB5 g1; obtain ⟨n5, a5, c5, l5, rfl, -⟩ := hi5; unfold iv at *)
        | (go_at_call 104; refine (mc _ _ ?_ ?_).mono ?_; (repeat (first | exact Below.refl _ _ | exact hB5 | refine Below.drew ?_ | refine below_drewN ?_ _ | refine bset ?_ (by simp <;> omega) _ | refine bal ?_ _)); (refine HI5.out.keep ?_; have hBz := Below.refl w5.heap.size w5; (repeat (first | exact Below.refl _ _ | exact hBz | refine Below.drew ?_ | refine below_drewN ?_ _ | refine bset ?_ (by simp <;> omega) _ | refine bal ?_ _))); rintro e w9 ⟨⟨v9, b9, x9, rfl, hi9, HB9⟩, hb9⟩; have hB9 : Below wc.heap.size wc w9 := bthen (by repeat (first | exact Below.refl _ _ | exact hB5 | refine Below.drew ?_ | refine below_drewN ?_ _ | refine bset ?_ (by simp <;> omega) _ | refine bal ?_ _)) hb9; have r09 := bkeep hB9 r0; have r19 := bkeep hB9 r1; have r09f := bkeepf hB9 r0 r0f; have r19f := bkeepf hB9 r1 r1f; have HI9 := Lib.hid hi9; obtain ⟨n9, a9, c9, l9, rfl, -⟩ := hi9; unfold iv at *)))
      all_goals
        clear oc mc
        go_wp2
        refine bodyPost_ret (v := .tuple #[.agg #[.bool n9, .slice a9 l9.length c9], .bool b9]) (by simp [results, Tryz.results100, go_sem, *]) rfl ?_
        have hB99 := bthen hBc hB9
      all_goals
        refine ansP_b ⟨fun h => ?_, fun h => ?_⟩ (HI9.out.put2 r09 r19 _ _) ?_
        · simp [opI, (HB9.out.1 h).1, (HB9.out.1 h).2]
        · simp [opI, HB9.out.2 h]
        ·
          repeat (first | exact Below.refl _ _ | exact hB99 | refine Below.drew ?_ | refine below_drewN ?_ _ | refine bset ?_ (by simp <;> omega) _ | refine bal ?_ _)
    · rw [constB_shift (.inl rfl)] at HC
      have hc := of_decide_eq_true HC.out
      obtain ⟨m, rfl⟩ : ∃ m : Nat, ic = m := ⟨ic.toNat, by omega⟩
      clear nx ax sx f0 f1 f2 h0 h1 zh zrb0 zi0 zrb hga hgb a1' b1'
      have oc := fun W => power_c m W (by omega)
      have mc := fun vz W (q : Below wc.heap.size wc W) (hz : IsInt W vz (2 ^ m)) => mul_c _ vz a (2 ^ m) k 65 W (HXC.out.keep q) hz HBD.out.1 (pow2_bd (by omega)) (by omega) (by omega)
      go_wp2
      go_region_law (go_simp; go_wp2_with (first
        | (go_at_call 155; refine (oc _).mono ?_; rintro e w5 ⟨⟨v5, rfl, hi5⟩, hb5⟩; have hB5 : Below wc.heap.size wc w5 := bthen (by repeat (first | exact Below.refl _ _ | exact hBw | refine Below.drew ?_ | refine below_drewN ?_ _ | refine bset ?_ (by simp <;> omega) _ | refine bal ?_ _)) hb5; have HI5 := Lib.hid hi5; have f35 := bkeep hB5 f3; have f45 := bkeep hB5 f4; have g05 := bkeep hB5 g0; have g15 := bkeep hB5 g1; obtain ⟨n5, a5, c5, l5, rfl, -⟩ := hi5; unfold iv at *)
        | (go_at_call 96; refine (mc _ _ ?_ ?_).mono ?_; (repeat (first | exact Below.refl _ _ | exact hB5 | refine Below.drew ?_ | refine below_drewN ?_ _ | refine bset ?_ (by simp <;> omega) _ | refine bal ?_ _)); (refine HI5.out.keep ?_; have hBz := Below.refl w5.heap.size w5; (repeat (first | exact Below.refl _ _ | exact hBz | refine Below.drew ?_ | refine below_drewN ?_ _ | refine bset ?_ (by simp <;> omega) _ | refine bal ?_ _))); rintro e w9 ⟨⟨v9, rfl, hi9⟩, hb9⟩; have hB9 : Below wc.heap.size wc w9 := bthen (by repeat (first | exact Below.refl _ _ | exact hB5 | refine Below.drew ?_ | refine below_drewN ?_ _ | refine bset ?_ (by simp <;> omega) _ | refine bal ?_ _)) hb9; have r09 := bkeep hB9 r0; have r19 := bkeep hB9 r1; have r09f := bkeepf hB9 r0 r0f; have r19f := bkeepf hB9 r1 r1f; have HI9 := Lib.hid hi9; obtain ⟨n9, a9, c9, l9, rfl, -⟩ := hi9; unfold iv at *)))
      all_goals
        clear oc mc
        go_wp2
        refine bodyPost_ret (v := .tuple #[.agg #[.bool n9, .slice a9 l9.length c9], .bool true]) (by simp [results, Tryz.results100, go_sem, *]) rfl ?_
        have hB99 := bthen hBc hB9
      all_goals
        refine ansP_some (by simp [opI]) (HI9.out.put2 r09 r19 _ _) ?_
        repeat (first | exact Below.refl _ _ | exact hB99 | refine Below.drew ?_ | refine below_drewN ?_ _ | refine bset ?_ (by simp <;> omega) _ | refine bal ?_ _)
    · rw [constB_shift (.inr rfl)] at HC
      have hc := of_decide_eq_true HC.out
      obtain ⟨m, rfl⟩ : ∃ m : Nat, ic = m := ⟨ic.toNat, by omega⟩
      clear nx ax sx f0 f1 f2 h0 h1 zh zrb0 zi0 zrb hga hgb a1' b1'
      have oc := fun W => power_c m W (by omega)
      have mc := fun vz W (q : Below wc.heap.size wc W) (hz : IsInt W vz (2 ^ m)) => nover_any _ vz a (2 ^ m) (k + 65) W (HXC.out.keep q) hz (HBD.out.1.mono (by omega)) (pow2_bd (by omega)) (by omega) (p2_ne m)
      go_wp2
      go_region_law (go_simp; go_wp2_with (first
        | (go_at_call 155; refine (oc _).mono ?_; rintro e w5 ⟨⟨v5, rfl, hi5⟩, hb5⟩; have hB5 : Below wc.heap.size wc w5 := bthen (by repeat (first | exact Below.refl _ _ | exact hBw | refine Below.drew ?_ | refine below_drewN ?_ _ | refine bset ?_ (by simp <;> omega) _ | refine bal ?_ _)) hb5; have HI5 := Lib.hid hi5; have f35 := bkeep hB5 f3; have f45 := bkeep hB5 f4; have g05 := bkeep hB5 g0; have g15 := bkeep hB5 g1; obtain ⟨n5, a5, c5, l5, rfl, -⟩ := hi5; unfold iv at *)
        | (go_at_call 104; refine (mc _ _ ?_ ?_).mono ?_; (repeat (first | exact Below.refl _ _ | exact hB5 | refine Below.drew ?_ | refine below_drewN ?_ _ | refine bset ?_ (by simp <;> omega) _ | refine bal ?_ _)); (refine HI5.out.keep ?_; have hBz := Below.refl w5.heap.size w5; (repeat (first | exact Below.refl _ _ | exact hBz | refine Below.drew ?_ | refine below_drewN ?_ _ | refine bset ?_ (by simp <;> omega) _ | refine bal ?_ _))); rintro e w9 ⟨⟨v9, b9, x9, rfl, hi9, HB9⟩, hb9⟩; have hB9 : Below wc.heap.size wc w9 := bthen (by repeat (first | exact Below.refl _ _ | exact hB5 | refine Below.drew ?_ | refine below_drewN ?_ _ | refine bset ?_ (by simp <;> omega) _ | refine bal ?_ _)) hb9; have r09 := bkeep hB9 r0; have r19 := bkeep hB9 r1; have r09f := bkeepf hB9 r0 r0f; have r19f := bkeepf hB9 r1 r1f; have HI9 := Lib.hid hi9; obtain ⟨n9, a9, c9, l9, rfl, -⟩ := hi9; unfold iv at *)))
      all_goals
        clear oc mc
        go_wp2
        refine bodyPost_ret (v := .tuple #[.agg #[.bool n9, .slice a9 l9.length c9], .bool b9]) (by simp [results, Tryz.results100, go_sem, *]) rfl ?_
        have hB99 := bthen hBc hB9
      all_goals
        refine ansP_b ⟨fun h => ?_, fun h => ?_⟩ (HI9.out.put2 r09 r19 _ _) ?_
        · simp [opI, (HB9.out.1 h).1, (HB9.out.1 h).2]
        · simp [opI, HB9.out.2 h]
        ·
          repeat (first | exact Below.refl _ _ | exact hB99 | refine Below.drew ?_ | refine below_drewN ?_ _ | refine bset ?_ (by simp <;> omega) _ | refine bal ?_ _)
end Go.Proofs.YtannhpadoooedaaGreatDoor

/- exact: run on numbers. -/
namespace Go.Proofs.YtannhpadoooedaaGreatDoor
open Num
open Go.ChangeShapes Go.WideShapes Go.ChangeAt Go.RowKit
set_option linter.unusedVariables false
set_option linter.unusedSimpArgs false
attribute [local go_sem ↓] Go.wp_at_zero Go.wp_at_succ
/-- a function value that is told of each instruction's number, and goes on -/
def FnT (F : Nat) (caps : Array Value) : Prop :=
  ∀ W v x (k : Int), IsInt W v x → Calls Tryz.prog F (#[.int .i64 k, v] ++ caps) W fun e w' => e = .returned (.bool true) ∧ Below W.heap.size W w'
theorem told_c : FnT 59 #[] := fun W v x k hv => by
  obtain ⟨n1, a1, c1, l1, rfl, -⟩ := hv
  unfold iv
  have hB := Below.refl W.heap.size W
  show Calls Tryz.prog 59 #[.int .i64 k, .agg #[.bool n1, .slice a1 l1.length c1]] W _
  go_enter Tryz.func59, Tryz.ntmps59
  go_wp2
  go_ret
  exact ⟨rfl, by repeat (first | exact Below.refl _ _ | exact hB | refine Below.drew ?_ | refine below_drewN ?_ _ | refine bset ?_ (by simp <;> omega) _ | refine bal ?_ _)⟩
/-- what run answers -/
def RunNPost (code : List Ins) (r : List Int) (rb : Nat) (w : World) (e : Ending) (w' : World) : Prop :=
  ((∃ (m : Nat) (s : List Int), m < code.length ∧ afterN code r m = some s ∧ afterN code r (m + 1) = none ∧ e = .returned (.int .i64 m)) ∨
   (∃ s, afterN code r code.length = some s ∧ e = .returned (.int .i64 (-1)) ∧ IntsF IsInt w' rb 0 r.length (fun j => s.getD j 0) ∧ typOf w' rb = some 48)) ∧ Out (fun k => k = rb) w w'
set_option maxRecDepth 100000 in
set_option maxHeartbeats 16000000 in
theorem runN_c (ins regs : Int) (ca oa : Option Addr) (cc ol oc : Nat) (code : List Ins) (r : List Int) (K rb F : Nat) (caps : Array Value) (w : World) (hc : InsV w ca cc code) (hcs : ∀ n, n < code.length → InsOk (code.getD n default) r.length) (hcl : code.length ≤ 16384) (hCs : Cs code) (hr128 : r.length ≤ 128)
    (hI : IntsF IsInt w rb 0 r.length (fun j => r.getD j 0)) (hF : Free w rb) (hT : typOf w rb = some 48) (hb : ∀ j, Bd K (r.getD j 0)) (hK : K ≤ 2147483648) (hft : FnT F caps) (eF : Enters Tryz.prog F) (hne : ∀ b off, ca = some ⟨b, off, none⟩ → 0 < code.length → b ≠ rb) :
    Calls Tryz.prog 57 #[numV, .agg #[.int .i64 ins, .int .i64 regs, .slice ca code.length cc, .slice oa ol oc], .slice (some ⟨rb, 0, none⟩) r.length r.length, .func (.func F) #[] caps] w (RunNPost code r rb w) := by
  have HC := Lib.hid hc
  have HCS := Lib.hid hcs
  have HCs := Lib.hid hCs
  have HBD := Lib.hid hb
  have HFT := Lib.hid hft
  have HNE := Lib.hid hne
  have HI := Lib.hid (And.intro hI (And.intro hF hT))
  have zrb := hF.1
  clear hc hcs hCs hb hft hI hF hT hne
  unfold Enters at eF
  have hB := Below.refl w.heap.size w
  unfold numV
  obtain ⟨R, hR⟩ : ∃ R, r.length = R := ⟨_, rfl⟩
  rw [hR] at HI HCS hr128 ⊢
  have HR := Lib.hid hR
  clear hR
  go_enter Tryz.func57, Tryz.ntmps57
  go_wp2
  go_step3
  go_wp2
  go_step3
  go_wp2
  refine wp_name fun w0 hW0 => ?_
  have f0 : w0.cell? ⟨w.heap.size, 0, none⟩ = some (.func (.func 101) #[] #[]) := by rw [hW0]; exact (by first | assumption | exact cell_new (by with_reducible first | rfl | (simp; done) | (simp; omega)) rfl | (repeat (first | assumption | exact cell_new (by with_reducible first | rfl | (simp; done) | (simp; omega)) rfl | refine cell_alloc ?_ _ | refine cell_drew ?_ | refine cell_drewN ?_ _ | refine cell_far ?_ (by simp) _ | (refine cell_far ?_ (by simp <;> omega) _))) | simp [go_sem, *])
  have zf0 := cell_lt f0
  have f1 : w0.cell? ⟨w.heap.size, 1, none⟩ = some (.func (.func 102) #[] #[]) := by rw [hW0]; exact (by first | assumption | exact cell_new (by with_reducible first | rfl | (simp; done) | (simp; omega)) rfl | (repeat (first | assumption | exact cell_new (by with_reducible first | rfl | (simp; done) | (simp; omega)) rfl | refine cell_alloc ?_ _ | refine cell_drew ?_ | refine cell_drewN ?_ _ | refine cell_far ?_ (by simp) _ | (refine cell_far ?_ (by simp <;> omega) _))) | simp [go_sem, *])
  have f2 : w0.cell? ⟨w.heap.size, 2, none⟩ = some (.func (.func 103) #[] #[]) := by rw [hW0]; exact (by first | assumption | exact cell_new (by with_reducible first | rfl | (simp; done) | (simp; omega)) rfl | (repeat (first | assumption | exact cell_new (by with_reducible first | rfl | (simp; done) | (simp; omega)) rfl | refine cell_alloc ?_ _ | refine cell_drew ?_ | refine cell_drewN ?_ _ | refine cell_far ?_ (by simp) _ | (refine cell_far ?_ (by simp <;> omega) _))) | simp [go_sem, *])
  have f3 : w0.cell? ⟨w.heap.size, 3, none⟩ = some (.func (.func 96) #[] #[]) := by rw [hW0]; exact (by first | assumption | exact cell_new (by with_reducible first | rfl | (simp; done) | (simp; omega)) rfl | (repeat (first | assumption | exact cell_new (by with_reducible first | rfl | (simp; done) | (simp; omega)) rfl | refine cell_alloc ?_ _ | refine cell_drew ?_ | refine cell_drewN ?_ _ | refine cell_far ?_ (by simp) _ | (refine cell_far ?_ (by simp <;> omega) _))) | simp [go_sem, *])
  have f4 : w0.cell? ⟨w.heap.size, 4, none⟩ = some (.func (.func 104) #[] #[]) := by rw [hW0]; exact (by first | assumption | exact cell_new (by with_reducible first | rfl | (simp; done) | (simp; omega)) rfl | (repeat (first | assumption | exact cell_new (by with_reducible first | rfl | (simp; done) | (simp; omega)) rfl | refine cell_alloc ?_ _ | refine cell_drew ?_ | refine cell_drewN ?_ _ | refine cell_far ?_ (by simp) _ | (refine cell_far ?_ (by simp <;> omega) _))) | simp [go_sem, *])
  have p2 : w0.cell? ⟨w.heap.size + 1, 2, none⟩ = some (.slice ca code.length cc) := by rw [hW0]; exact (by first | assumption | exact cell_new (by with_reducible first | rfl | (simp; done) | (simp; omega)) rfl | (repeat (first | assumption | exact cell_new (by with_reducible first | rfl | (simp; done) | (simp; omega)) rfl | refine cell_alloc ?_ _ | refine cell_drew ?_ | refine cell_drewN ?_ _ | refine cell_far ?_ (by simp) _ | (refine cell_far ?_ (by simp <;> omega) _))) | simp [go_sem, *])
  have zp2 := cell_lt p2
  have hB : Below w.heap.size w w0 := by rw [hW0]; repeat (first | exact Below.refl _ _ | exact hB | refine Below.drew ?_ | refine below_drewN ?_ _ | refine bset ?_ (by simp <;> omega) _ | refine bal ?_ _)
  have hz : w.heap.size ≤ w0.heap.size := hB.size
  clear hW0
  have HP := Lib.hid (show ∀ W, Out (fun k => k = rb) w0 W → W.cell? ⟨w.heap.size, 0, none⟩ = some (.func (.func 101) #[] #[]) ∧ W.cell? ⟨w.heap.size, 1, none⟩ = some (.func (.func 102) #[] #[]) ∧ W.cell? ⟨w.heap.size, 2, none⟩ = some (.func (.func 103) #[] #[]) ∧ W.cell? ⟨w.heap.size, 3, none⟩ = some (.func (.func 96) #[] #[]) ∧ W.cell? ⟨w.heap.size, 4, none⟩ = some (.func (.func 104) #[] #[]) ∧ W.cell? ⟨w.heap.size + 1, 2, none⟩ = some (.slice ca code.length cc) from fun W h =>
    have hne : ¬ w.heap.size = rb := by omega
    have hne1 : ¬ w.heap.size + 1 = rb := by omega
    ⟨okeep h f0 hne, okeep h f1 hne, okeep h f2 hne, okeep h f3 hne, okeep h f4 hne, okeep h p2 hne1⟩)
  have hO0 := Out.of_below (fun k => k = rb) hB
  clear f0 f1 f2 f3 f4 p2
  go_loopw [16] (fun x wr => ∃ n : Nat, n ≤ code.length ∧ x = .int .i64 n ∧ Out (fun k => k = rb) w0 wr ∧ Hid (∃ s, afterN code r n = some s ∧ IntsF IsInt wr rb 0 R (fun j => s.getD j 0) ∧ Free wr rb ∧ typOf wr rb = some 48)) (fun x _ => code.length - (intOf x).toNat)
  case atStart => exact ⟨0, Nat.zero_le _, rfl, Out.refl _ _, Lib.hid ⟨r, rfl, HI.out.1.keep lims_int hB, HI.out.2.1.keep hB, typ_keep HI.out.2.2 hB⟩⟩
  case round =>
    obtain ⟨n, hn, rfl, hOr, hrel⟩ := hrel
    obtain ⟨s, hs, hI, hF, hT⟩ := hrel.out
    have HS := Lib.hid (And.intro hs (And.intro hI (And.intro hF hT)))
    have hOw : Out (fun k => k = rb) w wr := hO0.trans hOr
    have hsl := afterN_len hs
    have hbd := afterN_bd HBD.out HCs.out hn hs
    have HBN := Lib.hid (And.intro hsl hbd)
    have hz0 : w0.heap.size ≤ wr.heap.size := hOr.size
    obtain ⟨f0, f1, f2, f3, f4, p2⟩ := HP.out wr hOr
    clear hs hI hF hT hsl hbd hrel
    by_cases hlt : n < code.length
    · have hltI : (n : Int) < (code.length : Int) := by omega
      rcases HC.out with h0 | ⟨cb, co, rfl, hcap, hcell⟩
      · rw [h0] at hlt; simp at hlt
      have hcb : ¬ cb = rb := HNE.out cb co rfl (by omega)
      obtain ⟨q0, q1, q2, q3, q4⟩ := hcell n hlt
      replace q0 := okeep hOw q0 hcb
      replace q1 := okeep hOw q1 hcb
      replace q2 := okeep hOw q2 hcb
      replace q3 := okeep hOw q3 hcb
      replace q4 := okeep hOw q4 hcb
      have zq := cell_lt q0
      have zf := cell_lt f0
      have zp := cell_lt p2
      have hio := HCS.out n hlt
      have dc := fun W (k : Below wr.heap.size wr W) => doN_c (code.getD n default) (K + 65 * n) rb R (fun j => s.getD j 0) W (HS.out.2.1.keep lims_int k) hio (fun j _ => HBN.out.2 j) (by omega) hr128
      have HNX := Lib.hid (fun (s : List Int) (e : afterN code r n = some s) => afterN_succ e)
      have t0 := hio.t0
      have t1 := hio.t1
      obtain ⟨Z, hZ⟩ : ∃ Z, opI (code.getD n default) (s.getD (code.getD n default).a.toNat 0) (s.getD (code.getD n default).b.toNat 0) = Z := ⟨_, rfl⟩
      rw [hZ] at dc
      have HZ := Lib.hid hZ
      obtain ⟨i, hi⟩ : ∃ i, i = code.getD n default := ⟨_, rfl⟩
      rw [← hi] at q0 q1 q2 q3 q4 dc t0 t1
      have HIN := Lib.hid hi
      clear hi hcell hio hZ
      obtain ⟨op, it, ia, ib, ic⟩ := i
      dsimp only at q0 q1 q2 q3 q4 t0 t1
      obtain ⟨nt, rfl⟩ : ∃ x : Nat, it = x := ⟨it.toNat, by omega⟩
      have t1' : nt < R := by omega
      unfold Ins.v numV at dc
      dsimp only at dc
      unfold AnsP at dc
      have hBw := Below.refl wr.heap.size wr
      cases Z with
      | none =>
        dsimp only at dc
        go_wp2_with fail
        refine (dc _ (by repeat (first | exact Below.refl _ _ | exact hBw | refine Below.drew ?_ | refine below_drewN ?_ _ | refine bset ?_ (by simp <;> omega) _ | refine bal ?_ _))).mono ?_
        rintro e w5 ⟨⟨v5, x5, rfl, hi5⟩, hb5⟩
        have hB5 : Below wr.heap.size wr w5 := bthen (by repeat (first | exact Below.refl _ _ | exact hBw | refine Below.drew ?_ | refine below_drewN ?_ _ | refine bset ?_ (by simp <;> omega) _ | refine bal ?_ _)) hb5
        obtain ⟨n5, a5, c5, l5, rfl, -⟩ := hi5
        unfold iv at *
        clear dc
        go_wp2
        go_ret
        refine ⟨.inl ⟨n, s, hlt, HS.out.1, ?_, rfl⟩, hOw.below (by repeat (first | exact Below.refl _ _ | exact hB5 | refine Below.drew ?_ | refine below_drewN ?_ _ | refine bset ?_ (by simp <;> omega) _ | refine bal ?_ _))⟩
        rw [HNX.out s HS.out.1, HZ.out]; rfl
      | some z =>
        dsimp only at dc
        go_wp2_with fail
        refine (dc _ (by repeat (first | exact Below.refl _ _ | exact hBw | refine Below.drew ?_ | refine below_drewN ?_ _ | refine bset ?_ (by simp <;> omega) _ | refine bal ?_ _))).mono ?_
        rintro e w5 ⟨⟨v5, rfl, hi5⟩, hb5⟩
        have i1 : w5.cell? ⟨wr.heap.size, 1, none⟩ = some (.int .i64 nt) := bkeep hb5 (by first | exact cell_new rfl rfl | exact cell_drew (cell_new rfl rfl))
        have hB5 : Below wr.heap.size wr w5 := bthen (by repeat (first | exact Below.refl _ _ | exact hBw | refine Below.drew ?_ | refine below_drewN ?_ _ | refine bset ?_ (by simp <;> omega) _ | refine bal ?_ _)) hb5
        have HV5 := Lib.hid hi5
        obtain ⟨n5, a5, c5, l5, rfl, -⟩ := hi5
        unfold iv at *
        clear dc
        have hI5 := HS.out.2.1.keep lims_int hB5
        have hF5 := HS.out.2.2.1.keep hB5
        obtain ⟨nx, ax, lx, cx, o0, o1, -⟩ := hI5.at0 t1'
        have of0 := hF5.2 (nt * 2)
        have of1 := hF5.2 (nt * 2 + 1)
        have zo := cell_lt o0
        have zi := cell_lt i1
        have HI5 := Lib.hid (And.intro hI5 (And.intro hF5 (typ_keep HS.out.2.2.2 hB5)))
        clear hI5 hF5
        have hN : Hid (∀ W, W = ((w5.setCell ⟨rb, nt * 2, none⟩ (.bool n5)).setCell ⟨rb, nt * 2 + 1, none⟩ (.slice a5 l5.length c5)).alloc (.cells #[.bool n5, .slice a5 l5.length c5] 48) → IntsF IsInt W rb 0 R (fun j => (s.set nt z).getD j 0) ∧ Free W rb ∧ typOf W rb = some 48 ∧ IsInt W (.agg #[.bool n5, .slice a5 l5.length c5]) z ∧ Out (fun k => k = rb) w0 W ∧ W.cell? ⟨w5.heap.size, 0, none⟩ = some (.bool n5) ∧ W.cell? ⟨w5.heap.size, 1, none⟩ = some (.slice a5 l5.length c5)) := Lib.hid fun W hW => by
          subst hW
          have ka : Below ((w5.setCell ⟨rb, nt * 2, none⟩ (.bool n5)).setCell ⟨rb, nt * 2 + 1, none⟩ (.slice a5 l5.length c5)).heap.size ((w5.setCell ⟨rb, nt * 2, none⟩ (.bool n5)).setCell ⟨rb, nt * 2 + 1, none⟩ (.slice a5 l5.length c5)) (((w5.setCell ⟨rb, nt * 2, none⟩ (.bool n5)).setCell ⟨rb, nt * 2 + 1, none⟩ (.slice a5 l5.length c5)).alloc (.cells #[.bool n5, .slice a5 l5.length c5] 48)) := bal (Below.refl _ _) _
          refine ⟨((IntsF.store0 lims_int HI5.out.1 t1' HV5.out).keep lims_int ka).congr fun j hj => ?_, ((HI5.out.2.1.set _ _).set _ _).keep ka, typ_keep (by rw [typ_set, typ_set]; exact HI5.out.2.2) ka, ((HV5.out).lim (Lim.set2 o0 o1 _ _)).keep ka, (((hOr.below hB5).set (fun _ => rfl) _).set (fun _ => rfl) _).below ka, cell_new (by simp) rfl, cell_new (by simp) rfl⟩
          by_cases e : j = nt
          · subst e; simp [HBN.out.1, HR.out, t1']
          · have : (s.set nt z)[j]? = s[j]? := List.getElem?_set_ne (fun h => e h.symm)
            simp [e, List.getD_eq_getElem?_getD, this]
        have HST := Lib.hid (show afterN code r (n + 1) = some (s.set nt z) by rw [HNX.out s HS.out.1, HZ.out, ← HIN.out, Option.map_some]; dsimp only; rw [Int.toNat_natCast])
        go_upto_region 8 with (fail)
        refine wp_name fun w6 hW6 => ?_
        have HN6 := Lib.hid (hN.out w6 hW6)
        have y0 := HN6.out.2.2.2.2.2.1
        have y1 := HN6.out.2.2.2.2.2.2
        have z6 := cell_lt y0
        have hB6 := Below.refl w6.heap.size w6
        clear hW6 hN o0 o1 of0 of1 i1 HI5 HV5 q0 q1 q2 q3 q4 f0 f1 f2 f3 f4 p2
        go_wp2_with (go_at_fn F; refine (HFT.out _ _ z _ (HN6.out.2.2.2.1.keep ?_)).mono ?_; (repeat (first | exact Below.refl _ _ | exact hB6 | refine Below.drew ?_ | refine below_drewN ?_ _ | refine bset ?_ (by simp <;> omega) _ | refine bal ?_ _)); rintro e w7 ⟨rfl, hb7⟩)
        have hB7 : Below w6.heap.size w6 w7 := bthen (by repeat (first | exact Below.refl _ _ | exact hB6 | refine Below.drew ?_ | refine below_drewN ?_ _ | refine bset ?_ (by simp <;> omega) _ | refine bal ?_ _)) hb7
        have HNEXT := Lib.hid (show ∃ s', afterN code r (n + 1) = some s' ∧ IntsF IsInt w7 rb 0 R (fun j => s'.getD j 0) ∧ Free w7 rb ∧ typOf w7 rb = some 48 from ⟨_, HST.out, HN6.out.1.keep lims_int hB7, HN6.out.2.1.keep hB7, typ_keep HN6.out.2.2.1 hB7⟩)
        have hO7 : Out (fun k => k = rb) w0 w7 := HN6.out.2.2.2.2.1.below hB7
        clear HN6 y0 y1
        go_wp2
        exact ⟨⟨n + 1, by omega, by go_num, hO7, HNEXT⟩, by simp [intOf]; omega⟩
    · obtain rfl : n = code.length := by omega
      go_wp2
      go_ret
      exact ⟨.inr ⟨s, HS.out.1, rfl, by rw [HR.out]; exact HS.out.2.1, HS.out.2.2.2⟩, hOw⟩
end Go.Proofs.YtannhpadoooedaaGreatDoor

/- exact: a new row of noughts, into which a row of numbers is copied. -/
namespace Go.Proofs.YtannhpadoooedaaGreatDoor
open Num
open Go.ChangeShapes Go.WideShapes Go.ChangeAt Go.RowKit
set_option linter.unusedVariables false
set_option linter.unusedSimpArgs false
/-- the registers at first -/
def startN (l : List Int) (R : Nat) : List Int := l ++ List.replicate (R - l.length) 0
theorem startN_len {l : List Int} {R : Nat} (h : l.length ≤ R) : (startN l R).length = R := by simp [startN]; omega
theorem startN_lt {l : List Int} {R j : Nat} (h : j < l.length) : (startN l R).getD j 0 = l.getD j 0 := by
  unfold startN; simp [List.getD_eq_getElem?_getD, List.getElem?_append_left h]
theorem startN_ge {l : List Int} {R j : Nat} (h : l.length ≤ j) : (startN l R).getD j 0 = 0 := by
  unfold startN
  rw [List.getD_eq_getElem?_getD, List.getElem?_append_right h]
  by_cases e : j - l.length < R - l.length
  · simp [e]
  · simp [List.getElem?_replicate, e]
/-- what the outs hold -/
def outsN (outs : List Int) (s : List Int) : List Int := outs.map fun k => s.getD k.toNat 0
section
variable {ops : Array Oper} {o : Oper} {a : Act} {Q : Exit → Act → World → Prop} {w : World} {d x : Operand}
set_option maxRecDepth 100000 in
/-- copy of a row into a new one -/
theorem copy_ints {rest : List Oper} (hgd : o.guard = none) (ho : o.op = .call { callee := .builtin .copy, args := #[d, x], argTypes := #[29, 29] }) {g R c base : Nat} {ad : Option Addr} {l : List Int}
    (hd : a.eval d = .slice (some ⟨g, 0, none⟩) R R) (hs : a.eval x = .slice ad l.length c) (hv : PRow base w (.slice ad l.length c) l) (hl : l.length ≤ R) (hg : w.heap[g]? = some (Obj.cells (zcel R) 48 (0, 0)))
    (h : ∀ n w', IntsF IsInt w' g 0 R (fun j => (startN l R).getD j 0) → Free w' g → typOf w' g = some 48 → Out (fun k => k = g) w w' → wpList Tryz.prog ops Q rest (a.put o.dst n) w') : wpList Tryz.prog ops Q (o :: rest) a w := by
  obtain ⟨i0, z0, hi, hz0, hz1, hz2, hz3⟩ := elInt.info
  obtain ⟨a', c', he, h2, h3, h4⟩ := hv
  obtain ⟨rfl, -, rfl⟩ := Value.slice.inj he
  have hty : typOf w g = some 48 := by unfold typOf; rw [hg]
  have hzs : (zcel R).size = R * 2 := by simp [zcel, size_madeCells]
  have hm : Nat.min l.length R = l.length := Nat.min_eq_left hl
  have key : ∃ n w', (Builtin.copy_ #[29, 29] o.type #[.slice (some ⟨g, 0, none⟩) R R, .slice ad l.length c]).run Tryz.prog w = .ok n w' ∧ IntsF IsInt w' g 0 R (fun j => (startN l R).getD j 0) ∧ Free w' g ∧ typOf w' g = some 48 ∧ Out (fun k => k = g) w w' := by
    rcases h4 with rfl | ⟨b, off, rfl, hb, ht, hi'⟩
    · refine ⟨goInt 0, w, ?_, ?_, ?_, hty, Out.refl _ _⟩
      · cases ad with
        | none => simp [Builtin.copy_, run_underlying Tryz.underlying29, Builtin.lenOf, Builtin.firstCells, sizeOf, typeInfo, hi, storeCells]
        | some q => simp [Builtin.copy_, run_underlying Tryz.underlying29, Builtin.lenOf, Builtin.firstCells, sizeOf, typeInfo, hi, storeCells, loadCells, loadCellsFrom]
      · intro k hk
        obtain ⟨e1, e2⟩ := zcel_at hk
        refine ⟨false, none, 0, 0, by simp [World.cell?, hg, e1], by simp [World.cell?, hg, e2], ?_⟩
        show IsInt w _ ((startN [] R).getD k 0)
        rw [startN_ge (by simp)]; exact isInt_zero _
      · exact ⟨(Array.getElem?_eq_some_iff.1 hg).1, fun j => by simp [World.frozen?, hg]⟩
    · have hl2 : (cellsAt w b off (l.length * 2)).length = l.length * i0.size := by rw [cellsAt_len, hz1]
      have hsrc : ∀ j u, (cellsAt w b off (l.length * 2))[j]? = some u → w.cell? ((⟨b, off, none⟩ : Addr).add j) = some u := cellsAt_at (Below.refl _ _) fun j hj => by obtain ⟨v, hv, _⟩ := intsF_cells hi' j hj; exact ⟨v, hv⟩
      have hf := run_firstCells_some (P := Tryz.prog) w i0.size l.length ⟨b, off, none⟩ l.length c _ hl2 hsrc
      have hst := run_storeCells_at Tryz.prog g 0 _ (cellsAt w b off (l.length * 2)) 0 (zcel R) w hg (by rw [cellsAt_len, hzs]; omega) (cellsAt_all (intsF_cells hi'))
      refine ⟨goInt l.length, w.setRow g ((zcel R).toList.take (0 + 0) ++ cellsAt w b off (l.length * 2) ++ (zcel R).toList.drop (0 + 0 + (cellsAt w b off (l.length * 2)).length)).toArray, by simp [Builtin.copy_, run_underlying Tryz.underlying29, Builtin.lenOf, sizeOf, typeInfo, hi, hm, hf, hst], ?_⟩
      have hh := setRow_heap w g (zcel R) ((zcel R).toList.take (0 + 0) ++ cellsAt w b off (l.length * 2) ++ (zcel R).toList.drop (0 + 0 + (cellsAt w b off (l.length * 2)).length)).toArray _ _ hg
      have hO : Out (fun k => k = g) w (w.setRow g ((zcel R).toList.take (0 + 0) ++ cellsAt w b off (l.length * 2) ++ (zcel R).toList.drop (0 + 0 + (cellsAt w b off (l.length * 2)).length)).toArray) := ⟨rfl, rfl, rfl, by simp [World.setRow], fun k hk hx => setRow_other w g k _ hx⟩
      have hLim : Lim w (w.setRow g ((zcel R).toList.take (0 + 0) ++ cellsAt w b off (l.length * 2) ++ (zcel R).toList.drop (0 + 0 + (cellsAt w b off (l.length * 2)).length)).toArray) := (Kp.out (S := (· ≠ 48)) hO (fun q t hq ht k => by subst hq; rw [hty] at ht; exact k (Option.some.inj ht).symm)).lim (by decide)
      refine ⟨fun k hk => ?_, ⟨(Array.getElem?_eq_some_iff.1 hh).1, fun j => by unfold World.frozen?; rw [show (World.setRow w g _).heap[(⟨g, j, none⟩ : Addr).block]? = _ from hh]; simp⟩, by unfold typOf; rw [hh], hO⟩
      have cel : ∀ j, (w.setRow g ((zcel R).toList.take (0 + 0) ++ cellsAt w b off (l.length * 2) ++ (zcel R).toList.drop (0 + 0 + (cellsAt w b off (l.length * 2)).length)).toArray).cell? ⟨g, j, none⟩ = (cellsAt w b off (l.length * 2) ++ (zcel R).toList.drop (l.length * 2))[j]? := fun j => by
        rw [cell_of_row _ g j _ _ _ hh]; simp [cellsAt_len]
      by_cases e : k < l.length
      · obtain ⟨nb, q, len, cq, k1, k2, k3⟩ := hi' k e
        refine ⟨nb, q, len, cq, ?_, ?_, ?_⟩
        · rw [cel, Nat.zero_add, List.getElem?_append_left (by rw [cellsAt_len]; omega)]; exact cellsAt_get (by omega) k1
        · rw [cel, Nat.zero_add, List.getElem?_append_left (by rw [cellsAt_len]; omega)]; exact cellsAt_get (by omega) k2
        · show IsInt _ _ ((startN l R).getD k 0)
          rw [startN_lt e]; exact lims_int _ _ _ _ k3 hLim
      · obtain ⟨e1, e2⟩ := zcel_at hk
        refine ⟨false, none, 0, 0, ?_, ?_, ?_⟩
        · rw [cel, Nat.zero_add, List.getElem?_append_right (by rw [cellsAt_len]; omega), cellsAt_len, List.getElem?_drop, show l.length * 2 + (k * 2 - l.length * 2) = k * 2 by omega, Array.getElem?_toList]; exact e1
        · rw [cel, Nat.zero_add, List.getElem?_append_right (by rw [cellsAt_len]; omega), cellsAt_len, List.getElem?_drop, show l.length * 2 + (k * 2 + 1 - l.length * 2) = k * 2 + 1 by omega, Array.getElem?_toList]; exact e2
        · show IsInt _ _ ((startN l R).getD k 0)
          rw [startN_ge (by omega)]; exact isInt_zero _
  obtain ⟨n, w', hr, h1, h2, h3, h4⟩ := key
  refine wpList_plain hgd fun K hK => ?_
  unfold Oper.wp
  simp [execOp, ho, resolve, invoke, builtin, hd, hs, hr, Result.andThen]
  exact hK _ _ (h n w' h1 h2 h3 h4)
end
end Go.Proofs.YtannhpadoooedaaGreatDoor

/- vm: Next, Done, Outs. -/
namespace Go.Proofs.YtannhpadoooedaaGreatDoor
open Num
open Go.ChangeShapes Go.WideShapes Go.ChangeAt Go.RowKit
set_option linter.unusedVariables false
set_option linter.unusedSimpArgs false
attribute [local go_sem ↓] Go.wp_at_zero Go.wp_at_succ
section
variable {base b rb rc : Nat} {ins regs : Int} {code : List Ins} {outs : List Int} {g : Grid} {n : Nat}
/-- fresh rows -/
abbrev RowW (base : Nat) := RowO IsInt 48 base
end
end Go.Proofs.YtannhpadoooedaaGreatDoor

/- vm: Run. -/
namespace Go.Proofs.YtannhpadoooedaaGreatDoor
open Num
open Go.ChangeShapes Go.WideShapes Go.ChangeAt Go.RowKit
set_option linter.unusedVariables false
set_option linter.unusedSimpArgs false
theorem cs_of {ins regs : Int} {code : List Ins} {outs : List Int} (h : ProgOk ins regs code outs) : Cs code := fun n hn => by
  obtain ⟨h1, h2, h3, h4, h5, h6, _⟩ := (mayB_iff ..).1 (h.cs n hn)
  constructor
  · intro e; rw [constB_mul (.inl e)] at h6; have := of_decide_eq_true h6; omega
  · intro e; rw [constB_shift (.inl e)] at h6; have := of_decide_eq_true h6; omega
theorem ins_of {ins regs : Int} {code : List Ins} {outs : List Int} (h : ProgOk ins regs code outs) {n : Nat} (hn : n < code.length) : InsOk (code.getD n default) regs.toNat := by
  have h1 := h.i1; have h2 := h.i2
  refine insOk_of ?_ (by omega)
  rw [show ((regs.toNat : Nat) : Int) = regs by omega]; exact h.cs n hn
end Go.Proofs.YtannhpadoooedaaGreatDoor

/- exact: right, Run. -/
namespace Go.Proofs.YtannhpadoooedaaGreatDoor
open Num
open Go.ChangeShapes Go.WideShapes Go.ChangeAt Go.RowKit
set_option linter.unusedVariables false
set_option linter.unusedSimpArgs false
attribute [local go_sem ↓] Go.wp_at_zero Go.wp_at_succ
/-- what right answers -/
def RightE (ins regs : Int) (code : List Ins) (outs : List Int) (n : Int) (w : World) (e : Ending) (w' : World) : Prop :=
  ((¬ ProgOk ins regs code outs ∧ e = .returned (.int .i64 80)) ∨ (ProgOk ins regs code outs ∧ n ≠ ins ∧ e = .returned (.int .i64 5)) ∨ (ProgOk ins regs code outs ∧ n = ins ∧ e = .returned (.int .i64 0))) ∧ Below w.heap.size w w'
set_option maxRecDepth 100000 in
set_option maxHeartbeats 2000000 in
theorem right_c (ins regs : Int) (ca oa : Option Addr) (cc oc : Nat) (code : List Ins) (outs : List Int) (n : Int) (w : World) (hc : InsV w ca cc code) (ho : IntsV w oa oc outs) :
    Calls Tryz.prog 56 #[.agg #[.int .i64 ins, .int .i64 regs, .slice ca code.length cc, .slice oa outs.length oc], .int .i64 n] w (RightE ins regs code outs n w) := by
  have kc := fun W (h : Below w.heap.size w W) => check_c ins regs ca oa cc oc code outs W (hc.keep h) (ho.keep h)
  clear hc ho
  have hB := Below.refl w.heap.size w
  go_enter Tryz.func56, Tryz.ntmps56
  go_wp2_with fail
  refine (kc _ (by repeat (first | exact Below.refl _ _ | exact hB | refine Below.drew ?_ | refine below_drewN ?_ _ | refine bset ?_ (by simp <;> omega) _ | refine bal ?_ _))).mono ?_
  rintro e w1 ⟨r, s, rfl, hp, hb1⟩
  have p0 : w1.cell? ⟨w.heap.size, 0, none⟩ = some (.int .i64 ins) := bkc hb1
  have zp0 := cell_lt p0
  have hB : Below w.heap.size w w1 := bthen (by repeat (first | exact Below.refl _ _ | exact hB | refine Below.drew ?_ | refine below_drewN ?_ _ | refine bset ?_ (by simp <;> omega) _ | refine bal ?_ _)) hb1
  have hz : w.heap.size ≤ w1.heap.size := hB.size
  clear kc
  rcases hp with ⟨hok, rfl, rfl⟩ | ⟨hno, rfl⟩
  · have HOK := Lib.hid hok
    clear hok
    by_cases e : n = ins
    · have HE := Lib.hid e
      have hq : (n != ins) = false := by simpa using e
      clear e
      go_wp2
      go_ret
      exact ⟨.inr (.inr ⟨HOK.out, HE.out, rfl⟩), hB⟩
    · have HE := Lib.hid e
      have hq : (n != ins) = true := by simpa using e
      clear e
      go_wp2
      go_ret
      exact ⟨.inr (.inl ⟨HOK.out, HE.out, rfl⟩), hB⟩
  · have HNO := Lib.hid hno
    clear hno
    go_wp2
    go_ret
    exact ⟨.inl ⟨HNO.out, rfl⟩, hB⟩
/-- run's answer, an int -/
theorem runNRes {code : List Ins} {r : List Int} {rb : Nat} {w : World} {e : Ending} {w' : World} (h : RunNPost code r rb w e w') : (∃ q : Int, e = .returned (.int .i64 q) ∧ ((∃ (m : Nat) (s : List Int), m < code.length ∧ afterN code r m = some s ∧ afterN code r (m + 1) = none ∧ q = m) ∨ (∃ s, afterN code r code.length = some s ∧ q = -1 ∧ IntsF IsInt w' rb 0 r.length (fun j => s.getD j 0) ∧ typOf w' rb = some 48))) ∧ Out (fun k => k = rb) w w' := by
  obtain ⟨h, hO⟩ := h
  refine ⟨?_, hO⟩
  rcases h with ⟨m, s, h1, h2, h3, rfl⟩ | ⟨s, h1, rfl, h2, h3⟩
  · exact ⟨_, rfl, .inl ⟨m, s, h1, h2, h3, rfl⟩⟩
  · exact ⟨_, rfl, .inr ⟨s, h1, rfl, h2, h3⟩⟩
/-- what Run answers -/
def ExRunPost (ins regs : Int) (code : List Ins) (outs : List Int) (l : List Int) (w : World) (e : Ending) (w' : World) : Prop :=
  ((¬ ProgOk ins regs code outs ∧ e = .returned (.tuple #[.slice none 0 0, .int .i64 0, .int .i64 80])) ∨
   (ProgOk ins regs code outs ∧ (l.length : Int) ≠ ins ∧ e = .returned (.tuple #[.slice none 0 0, .int .i64 0, .int .i64 5])) ∨
   (ProgOk ins regs code outs ∧ (l.length : Int) = ins ∧ ∃ (m : Nat) (s : List Int), m < code.length ∧ afterN code (startN l regs.toNat) m = some s ∧ afterN code (startN l regs.toNat) (m + 1) = none ∧ e = .returned (.tuple #[.slice none 0 0, .int .i64 m, .int .i64 20])) ∨
   (ProgOk ins regs code outs ∧ (l.length : Int) = ins ∧ ∃ (s : List Int) (v : Value), afterN code (startN l regs.toNat) code.length = some s ∧ e = .returned (.tuple #[v, .int .i64 0, .int .i64 0]) ∧ OwnF IsInt 48 w w' v outs.length (fun k => (outsN outs s).getD k 0))) ∧ Below w.heap.size w w'
set_option maxRecDepth 100000 in
set_option maxHeartbeats 16000000 in
theorem exRun_c (ins regs : Int) (ca oa : Option Addr) (cc oc : Nat) (code : List Ins) (outs : List Int) (v : Value) (l : List Int) (K : Nat) (w : World) (hc : InsV w ca cc code) (ho : IntsV w oa oc outs) (hv : PRow 0 w v l) (hl : l.length ≤ 1099511627776) (hb : ∀ j, Bd K (l.getD j 0)) (hK : K ≤ 2147483648) :
    Calls Tryz.prog 13 #[.agg #[.int .i64 ins, .int .i64 regs, .slice ca code.length cc, .slice oa outs.length oc], v] w (ExRunPost ins regs code outs l w) := by
  have kr := fun W (h : Below w.heap.size w W) => right_c ins regs ca oa cc oc code outs l.length W (hc.keep h) (ho.keep h)
  have HC := Lib.hid (And.intro hc ho)
  have HV := Lib.hid hv
  have HBD := Lib.hid hb
  obtain ⟨va, vc, rfl, -⟩ := hv
  clear hc ho hb
  have hB := Below.refl w.heap.size w
  go_enter Tryz.func13, Tryz.ntmps13
  go_wp2_with fail
  refine (kr _ (by repeat (first | exact Below.refl _ _ | exact hB | refine Below.drew ?_ | refine below_drewN ?_ _ | refine bset ?_ (by simp <;> omega) _ | refine bal ?_ _))).mono ?_
  rintro e w1 ⟨hp, hb1⟩
  have p0 : w1.cell? ⟨w.heap.size, 0, none⟩ = some (.int .i64 ins) := bkc hb1
  have zp0 := cell_lt p0
  have p1 : w1.cell? ⟨w.heap.size, 1, none⟩ = some (.int .i64 regs) := bkc hb1
  have p2 : w1.cell? ⟨w.heap.size, 2, none⟩ = some (.slice ca code.length cc) := bkc hb1
  have p3 : w1.cell? ⟨w.heap.size, 3, none⟩ = some (.slice oa outs.length oc) := bkc hb1
  have hB : Below w.heap.size w w1 := bthen (by repeat (first | exact Below.refl _ _ | exact hB | refine Below.drew ?_ | refine below_drewN ?_ _ | refine bset ?_ (by simp <;> omega) _ | refine bal ?_ _)) hb1
  have hz : w.heap.size ≤ w1.heap.size := hB.size
  clear kr
  rcases hp with ⟨hno, rfl⟩ | ⟨hok, hne, rfl⟩ | ⟨hok, hle, rfl⟩
  · have HNO := Lib.hid hno
    clear hno
    go_wp2
    go_ret3
    exact ⟨.inl ⟨HNO.out, rfl⟩, hB⟩
  · have HNO := Lib.hid (And.intro hok hne)
    clear hok hne
    go_wp2
    go_ret3
    exact ⟨.inr (.inl ⟨HNO.out.1, HNO.out.2, rfl⟩), hB⟩
  · have HOK := Lib.hid hok
    have HLE := Lib.hid hle
    obtain ⟨R, hR⟩ : ∃ R : Nat, regs = R := ⟨regs.toNat, by have := hok.i1; have := hok.i2; omega⟩
    have hlR : l.length ≤ R := by have := hok.i2; omega
    have hR128 : R ≤ 128 := by have := hok.r1; omega
    clear hok hle
    subst hR
    have hmk := mkInts R (by omega)
    have hw1 : w.heap.size < w1.heap.size := zp0
    go_wp2_with (refine copy_ints (o := ⟨some 25, _, _, _, _, _⟩) (g := w1.heap.size) (R := R) (ad := va) (l := l) (c := vc) (base := 0) rfl rfl rfl rfl (HV.out.keep lims_int (bal hB _)) hlR (MapKept.heap_alloc w1 _).1 ?_)
    intro nn w2 hI2 hF2 hT2 hO2
    have hne : ¬ w.heap.size = w1.heap.size := by omega
    have hO1 : Out (fun k => k = w1.heap.size) w1 w2 := ((Out.refl _ w1).alloc _).trans hO2
    have HP := Lib.hid (show ∀ W, Out (fun k => k = w1.heap.size) w1 W → W.cell? ⟨w.heap.size, 0, none⟩ = some (.int .i64 ins) ∧ W.cell? ⟨w.heap.size, 1, none⟩ = some (.int .i64 (R : Int)) ∧ W.cell? ⟨w.heap.size, 2, none⟩ = some (.slice ca code.length cc) ∧ W.cell? ⟨w.heap.size, 3, none⟩ = some (.slice oa outs.length oc) from fun W h => ⟨okeep h p0 hne, okeep h p1 hne, okeep h p2 hne, okeep h p3 hne⟩)
    have HI2 := Lib.hid (And.intro hI2 (And.intro hF2 hT2))
    have HB1 := Lib.hid hB
    clear hI2 hF2 hT2 hO2 hmk p0 p1 p2 p3
    obtain ⟨p0, p1, p2, p3⟩ := HP.out w2 hO1
    have hzz : w1.heap.size < w2.heap.size := HI2.out.2.1.1
    have HSL := Lib.hid (startN_len hlR)
    have rx := fun W (k : Below w2.heap.size w2 W) => runN_c ins (R : Int) ca oa cc outs.length oc code (startN l R) K w1.heap.size 59 #[] W (HC.out.1.keep ((HB1.out.trans (hO1.to_below (fun q hq _ e => by omega) HB1.out.size)).trans (k.mono (by omega)))) (fun n hn => by rw [HSL.out]; exact ins_of HOK.out hn) HOK.out.c1 (cs_of HOK.out) (by rw [HSL.out]; exact hR128) (by rw [HSL.out]; exact HI2.out.1.keep lims_int k) (HI2.out.2.1.keep k) (typ_keep HI2.out.2.2 k) (fun j => by
      by_cases e : j < l.length
      · rw [startN_lt e]; exact HBD.out j
      · rw [startN_ge (by omega)]; exact bd_zero) hK told_c (ens Tryz.func59 (by kernel_rfl) rfl) (fun b off e hl e2 => by
      rcases HC.out.1 with h0 | ⟨b', off', h1, _, h3⟩
      · rw [h0] at hl; simp at hl
      · rw [e] at h1; cases h1
        have := cell_lt (h3 0 hl).c0
        omega)
    rw [HSL.out] at rx
    have hBc := Below.refl w2.heap.size w2
    go_wp2
    go_region_held3 (fun w' => w'.cell? ⟨w.heap.size, 0, none⟩ = some (.int .i64 ins) ∧ w'.cell? ⟨w.heap.size, 1, none⟩ = some (.int .i64 (R : Int)) ∧ w'.cell? ⟨w.heap.size, 2, none⟩ = some (.slice ca code.length cc) ∧ w'.cell? ⟨w.heap.size, 3, none⟩ = some (.slice oa outs.length oc))
      (first | (refine HP.out _ ?_; refine hO1.below ?_; (repeat (first | exact Below.refl _ _ | exact hBc | refine Below.drew ?_ | refine below_drewN ?_ _ | refine bset ?_ (by simp <;> omega) _ | refine bal ?_ _)); done) | (refine HP.out _ (hO1.trans ?_); (repeat (first | exact hO4 | refine Out.drew ?_ | refine Out.drewN ?_ _)); done) | fail)
      (first
        | (go_at_call 58; refine (numbers_c _).mono ?_; rintro e w3 ⟨rfl, hb3⟩; (have hBd : Below w2.heap.size w2 w3 := bthen (by repeat (first | exact Below.refl _ _ | exact hBc | refine Below.drew ?_ | refine below_drewN ?_ _ | refine bset ?_ (by simp <;> omega) _ | refine bal ?_ _)) hb3; clear hBc; have hBc := hBd; clear hBd))
        | (go_at_call 57; refine (rx _ ?_).mono ?_; (repeat (first | exact Below.refl _ _ | exact hBc | refine Below.drew ?_ | refine below_drewN ?_ _ | refine bset ?_ (by simp <;> omega) _ | refine bal ?_ _)); rintro e w4 hr4; obtain ⟨⟨q, rfl, hres⟩, hO4'⟩ := runNRes hr4; have hO4 : Out (fun k => k = w1.heap.size) w2 w4 := (Out.of_below _ (by repeat (first | exact Below.refl _ _ | exact hBc | refine Below.drew ?_ | refine below_drewN ?_ _ | refine bset ?_ (by simp <;> omega) _ | refine bal ?_ _))).trans hO4'; have HRES := Lib.hid hres; clear hres hr4 hO4')
        | fail)
    all_goals
      have hO14 := hO1.trans hO4
      have hB4 : Below w.heap.size w w4 := HB1.out.trans (hO14.to_below (fun q hq _ e => by omega) HB1.out.size)
      clear rx hBc p0 p1 p2 p3
      rcases HRES.out with ⟨m, s, h1, h2, h3, rfl⟩ | ⟨s, h1, rfl, h2, h3⟩
      · have HH := Lib.hid (And.intro h2 h3)
        clear h2 h3
        go_wp2
        go_ret3
        exact ⟨.inr (.inr (.inl ⟨HOK.out, HLE.out, m, s, h1, by rw [Int.toNat_natCast]; exact HH.out.1, by rw [Int.toNat_natCast]; exact HH.out.2, rfl⟩)), by repeat (first | exact Below.refl _ _ | exact hB4 | refine Below.drew ?_ | refine below_drewN ?_ _ | refine bset ?_ (by simp <;> omega) _ | refine bal ?_ _)⟩
      · have HH := Lib.hid (And.intro h1 h2)
        clear h1 h2 h3
        obtain ⟨p0, p1, p2, p3⟩ := HP.out w4 hO14
        have hsl := (afterN_len HH.out.1).trans HSL.out
        have HL := Lib.hid hsl
        clear hsl
        have hBw := Below.refl w4.heap.size w4
        go_wp2
        refine wp_name fun w5 hW5 => ?_
        have hb45 : Below w4.heap.size w4 w5 := by rw [hW5]; repeat (first | exact Below.refl _ _ | exact hBw | refine Below.drew ?_ | refine below_drewN ?_ _ | refine bset ?_ (by simp <;> omega) _ | refine bal ?_ _)
        clear hW5 p0 p1 p2 p3
        obtain ⟨p0, p1, p2, p3⟩ := HP.out w5 (hO14.below hb45)
        have hB5 := bthen hB4 hb45
        go_loopw [10, 36] (fun v x wr => ∃ k : Nat, k ≤ outs.length ∧ x = .int .i64 k ∧ Hid (OwnF IsInt 48 w5 wr v k (fun i => (outsN outs s).getD i 0))) (fun _ x _ => outs.length - (intOf x).toNat)
        case atStart => exact ⟨0, Nat.zero_le _, rfl, Lib.hid (OwnF.nil _ _ _ (Below.refl _ _))⟩
        case round =>
          obtain ⟨k, hk, rfl, hF⟩ := hrel
          have hbr := hF.out.bel
          have hBr := bthen hB5 hbr
          obtain ⟨fa, fc, hfv⟩ : ∃ a c, _ = Value.slice a k c := by obtain ⟨a, c, h, _⟩ := hF.out.view; exact ⟨a, c, h⟩
          subst hfv
          have hol := HOK.out.o2
          by_cases hlt : k < outs.length
          · have hltI : (k : Int) < (outs.length : Int) := by omega
            obtain ⟨q1, q2⟩ := HOK.out.os k hlt
            rcases HC.out.2 with h0 | ⟨ob, off, rfl, hcap, hcell⟩
            · rw [h0] at hlt; simp at hlt
            have hc := bkeep hBr (hcell k hlt)
            have zob := cell_lt hc
            obtain ⟨r, hr⟩ : ∃ r : Nat, outs.getD k 0 = r := ⟨(outs.getD k 0).toNat, by omega⟩
            rw [hr] at hc q1 q2
            have hrl : r < R := by omega
            have HE := Lib.hid (show (outsN outs s).getD k 0 = s.getD r 0 by
              unfold outsN
              have e : outs[k]? = some (r : Int) := by rw [← hr]; simp [hlt]
              rw [List.getD_eq_getElem?_getD, List.getElem?_map, e]; simp)
            obtain ⟨nx, ax, lx, cx, o0, o1, hi⟩ := (HH.out.2.keep lims_int (bthen hb45 hbr)).at0 (by rw [HSL.out]; exact hrl)
            have zo := cell_lt o0
            have HIX := Lib.hid hi
            have HSN : Hid (∀ j, j < k + 1 → (fun i => if i = k then s.getD r 0 else (outsN outs s).getD i 0) j = (outsN outs s).getD j 0) := Lib.hid (fun j hj => by
              dsimp only; split
              · subst_vars; rw [HE.out]
              · rfl)
            obtain ⟨z, hz⟩ : ∃ z, s.getD r 0 = z := ⟨_, rfl⟩
            rw [hz] at HSN
            have HIX := Lib.hid (show IsInt wr (.agg #[.bool nx, .slice ax lx cx]) z by have := HIX.out; (try dsimp only at this); rwa [hz] at this)
            clear hi hz hcell hr
            go_wp2_with (at_builtin; refine app_num elInt (by decide) lims_int (by rfl) (by rfl) hF.out HIX.out (by rfl) (by rfl) (by omega) ?_)
            intro v' w8 hF8 _ _
            have HF8 := Lib.hid (hF8.congr' HSN.out)
            clear hF8
            go_wp2
            exact ⟨⟨k + 1, by omega, by go_num, HF8⟩, by simp [intOf]; omega⟩
          · obtain rfl : k = outs.length := by omega
            go_wp2
            go_ret3
            exact ⟨.inr (.inr (.inr ⟨HOK.out, HLE.out, s, _, by rw [Int.toNat_natCast]; exact HH.out.1, rfl, OwnF.rebase' hB5 hF.out⟩)), hBr⟩
end Go.Proofs.YtannhpadoooedaaGreatDoor

/- Plain: decimal digits, low one first; nine at a time; a number's text. -/
namespace Go.Proofs.YtannhpadoooedaaGreatDoor.Num
/-- the decimal digits of a number, low one first; none of 0 -/
def lowD : Nat → List Nat
  | 0 => []
  | n + 1 => (n + 1) % 10 :: lowD ((n + 1) / 10)
decreasing_by omega
theorem lowD_zero : lowD 0 = [] := by rw [lowD]
theorem lowD_pos {n : Nat} (h : 0 < n) : lowD n = n % 10 :: lowD (n / 10) := by
  cases n with
  | zero => omega
  | succ n => rw [lowD]
theorem lowD_lt (n : Nat) : ∀ d ∈ lowD n, d < 10 := by
  induction n using Nat.strongRecOn with
  | _ n ih =>
    intro d hd
    by_cases h : 0 < n
    · rw [lowD_pos h] at hd
      rcases List.mem_cons.1 hd with rfl | hd
      · omega
      · exact ih (n / 10) (by omega) d hd
    · obtain rfl : n = 0 := by omega
      rw [lowD_zero] at hd; cases hd
theorem lowD_ne {n : Nat} (h : 0 < n) : lowD n ≠ [] := by rw [lowD_pos h]; simp
theorem lowD_len (k : Nat) : ∀ n, n < 2 ^ k → (lowD n).length ≤ k := by
  induction k with
  | zero => intro n h; obtain rfl : n = 0 := by simpa using h
            rw [lowD_zero]; simp
  | succ k ih =>
    intro n h
    by_cases h0 : 0 < n
    · rw [lowD_pos h0]
      have := ih (n / 10) (by rw [Nat.pow_succ] at h; omega)
      simp; exact this
    · obtain rfl : n = 0 := by omega
      rw [lowD_zero]; simp
/-- the low k digits of a number, with noughts -/
def padD : Nat → Nat → List Nat
  | 0, _ => []
  | k + 1, n => n % 10 :: padD k (n / 10)
theorem padD_len (k n : Nat) : (padD k n).length = k := by
  induction k generalizing n with
  | zero => rfl
  | succ k ih => simp [padD, ih]
theorem padD_snoc (k n : Nat) : padD (k + 1) n = padD k n ++ [n / 10 ^ k % 10] := by
  induction k generalizing n with
  | zero => simp [padD]
  | succ k ih =>
    rw [padD, ih (n / 10)]
    show _ = (n % 10 :: padD k (n / 10)) ++ _
    rw [List.cons_append, Nat.div_div_eq_div_mul, Nat.pow_succ, Nat.mul_comm 10]
/-- a number's digits: its low k, then those of what is above -/
theorem lowD_split (k : Nat) : ∀ n, 10 ^ k ≤ n → lowD n = padD k n ++ lowD (n / 10 ^ k) := by
  induction k with
  | zero => intro n _; simp [padD]
  | succ k ih =>
    intro n h
    have hp : 0 < 10 ^ k := Nat.pow_pos (by omega)
    rw [Nat.pow_succ] at h
    have hn : 0 < n := by omega
    rw [lowD_pos hn, ih (n / 10) (by rw [Nat.le_div_iff_mul_le (by omega)]; exact h), padD, Nat.div_div_eq_div_mul, Nat.pow_succ, Nat.mul_comm 10]
    rfl
/-- of a short number: with noughts above -/
theorem padD_low (k : Nat) : ∀ n, n < 10 ^ k → padD k n = lowD n ++ List.replicate (k - (lowD n).length) 0 ∧ (lowD n).length ≤ k := by
  induction k with
  | zero =>
    intro n h
    obtain rfl : n = 0 := by simpa using h
    simp [padD, lowD_zero]
  | succ k ih =>
    intro n h
    have h2 : n / 10 < 10 ^ k := by rw [Nat.pow_succ] at h; omega
    obtain ⟨e, hl⟩ := ih (n / 10) h2
    by_cases h0 : 0 < n
    · rw [padD, e, lowD_pos h0]
      refine ⟨?_, by simpa using hl⟩
      simp
    · obtain rfl : n = 0 := by omega
      rw [padD, e]
      simp [lowD_zero, List.replicate_succ]
theorem padD_mod (k : Nat) : ∀ n, padD k (n % 10 ^ k) = padD k n := by
  induction k with
  | zero => intro n; rfl
  | succ k ih =>
    intro n
    rw [padD, padD]
    have e1 : n % 10 ^ (k + 1) % 10 = n % 10 := by
      rw [Nat.pow_succ, Nat.mul_comm]
      exact Nat.mod_mul_right_mod n 10 (10 ^ k)
    have e2 : n % 10 ^ (k + 1) / 10 = n / 10 % 10 ^ k := by
      rw [Nat.pow_succ, Nat.mul_comm]
      exact Nat.mod_mul_right_div_self n 10 (10 ^ k)
    rw [e1, e2, ih]
/-- a number nine digits at a time, low ones first -/
def pcs : Nat → List Nat
  | 0 => []
  | n + 1 => (n + 1) % 1000000000 :: pcs ((n + 1) / 1000000000)
decreasing_by omega
theorem pcs_zero : pcs 0 = [] := by rw [pcs]
theorem pcs_pos {n : Nat} (h : 0 < n) : pcs n = n % 1000000000 :: pcs (n / 1000000000) := by
  cases n with
  | zero => omega
  | succ n => rw [pcs]
theorem pcs_lt (n : Nat) : ∀ d ∈ pcs n, d < 1000000000 := by
  induction n using Nat.strongRecOn with
  | _ n ih =>
    intro d hd
    by_cases h : 0 < n
    · rw [pcs_pos h] at hd
      rcases List.mem_cons.1 hd with rfl | hd
      · omega
      · exact ih (n / 1000000000) (by omega) d hd
    · obtain rfl : n = 0 := by omega
      rw [pcs_zero] at hd; cases hd
theorem pcs_ne {n : Nat} (h : 0 < n) : pcs n ≠ [] := by rw [pcs_pos h]; simp
/-- the pieces' digits: the last without noughts above -/
def lowP : List Nat → List Nat
  | [] => []
  | [p] => lowD p
  | p :: q :: l => padD 9 p ++ lowP (q :: l)
theorem lowP_pcs (n : Nat) : lowP (pcs n) = lowD n := by
  induction n using Nat.strongRecOn with
  | _ n ih =>
    by_cases h : 0 < n
    · rw [pcs_pos h]
      by_cases h2 : 0 < n / 1000000000
      · have e := ih (n / 1000000000) (by omega)
        rw [pcs_pos h2] at e ⊢
        rw [lowP, e, lowD_split 9 n (by omega)]
        have := padD_mod 9 n
        rw [show (10 : Nat) ^ 9 = 1000000000 from rfl] at *
        rw [this]
      · have h3 : n / 1000000000 = 0 := by omega
        rw [h3, pcs_zero, lowP, Nat.mod_eq_of_lt (by omega)]
    · obtain rfl : n = 0 := by omega
      rw [pcs_zero, lowD_zero]; rfl
/-- the last piece of a number is not 0 -/
theorem pcs_last (n : Nat) : ∀ h : pcs n ≠ [], 0 < (pcs n).getLast h := by
  induction n using Nat.strongRecOn with
  | _ n ih =>
    intro h
    have hn : 0 < n := by
      rcases Nat.eq_zero_or_pos n with rfl | h'
      · exact absurd pcs_zero h
      · exact h'
    by_cases h2 : 0 < n / 1000000000
    · have h3 := ih (n / 1000000000) (by omega) (pcs_ne h2)
      have e : (pcs n).getLast h = (pcs (n / 1000000000)).getLast (pcs_ne h2) := by
        have : ∀ l (hl : l ≠ []), l = n % 1000000000 :: pcs (n / 1000000000) → l.getLast hl = (pcs (n / 1000000000)).getLast (pcs_ne h2) := by
          intro l hl el; subst el; exact List.getLast_cons (pcs_ne h2)
        exact this _ h (pcs_pos hn)
      rw [e]; exact h3
    · have e : (pcs n).getLast h = n % 1000000000 := by
        have : ∀ l (hl : l ≠ []), l = [n % 1000000000] → l.getLast hl = n % 1000000000 := by
          intro l hl el; subst el; rfl
        exact this _ h (by rw [pcs_pos hn, show n / 1000000000 = 0 by omega, pcs_zero])
      rw [e]
      have : n < 1000000000 := by omega
      rw [Nat.mod_eq_of_lt this]; exact hn
/-- digits as bytes, high one first -/
def asc (l : List Nat) : List UInt8 := l.reverse.map fun d => UInt8.ofNat (48 + d)
theorem asc_append (l m : List Nat) : asc (l ++ m) = asc m ++ asc l := by simp [asc]
theorem lowD_last (n : Nat) : ∀ h : lowD n ≠ [], 0 < (lowD n).getLast h := by
  induction n using Nat.strongRecOn with
  | _ n ih =>
    intro h
    have hn : 0 < n := by
      rcases Nat.eq_zero_or_pos n with rfl | h'
      · exact absurd lowD_zero h
      · exact h'
    by_cases h2 : 0 < n / 10
    · have h3 := ih (n / 10) (by omega) (lowD_ne h2)
      have e : (lowD n).getLast h = (lowD (n / 10)).getLast (lowD_ne h2) := by
        have : ∀ l (hl : l ≠ []), l = n % 10 :: lowD (n / 10) → l.getLast hl = (lowD (n / 10)).getLast (lowD_ne h2) := by
          intro l hl el; subst el; exact List.getLast_cons (lowD_ne h2)
        exact this _ h (lowD_pos hn)
      rw [e]; exact h3
    · have e : (lowD n).getLast h = n % 10 := by
        have : ∀ l (hl : l ≠ []), l = [n % 10] → l.getLast hl = n % 10 := by
          intro l hl el; subst el; rfl
        exact this _ h (by rw [lowD_pos hn, show n / 10 = 0 by omega, lowD_zero])
      rw [e]; omega
/-- a number's text -/
def natTxt (n : Nat) : List UInt8 := if n = 0 then [48] else asc (lowD n)
def intTxt (z : Int) : List UInt8 := (if z < 0 then [45] else []) ++ natTxt z.natAbs
/-- the highest piece, its noughts ahead struck -/
theorem asc_pad_top {p : Nat} (h0 : 0 < p) (h : p < 1000000000) : (asc (padD 9 p)).dropWhile (· == 48) = asc (lowD p) := by
  obtain ⟨e, _⟩ := padD_low 9 p h
  rw [e, asc_append]
  have hz : asc (List.replicate (9 - (lowD p).length) 0) = List.replicate (9 - (lowD p).length) 48 := by simp [asc]
  rw [hz]
  have hd : ∀ (n : Nat) (l : List UInt8), (List.replicate n 48 ++ l).dropWhile (· == 48) = l.dropWhile (· == 48) := by
    intro n l
    induction n with
    | zero => rfl
    | succ n ih => rw [List.replicate_succ, List.cons_append, List.dropWhile_cons]; simp [ih]
  rw [hd]
  have hne := lowD_ne h0
  have hl := lowD_last p hne
  have hlt := lowD_lt p _ (List.getLast_mem hne)
  have e2 : asc (lowD p) = UInt8.ofNat (48 + (lowD p).getLast hne) :: asc (lowD p).dropLast := by
    conv => lhs; rw [← List.dropLast_concat_getLast hne]
    rw [asc_append]; rfl
  have h3 : (UInt8.ofNat (48 + (lowD p).getLast hne) == 48) = false := by
    rw [beq_eq_false_iff_ne]
    intro h
    have := congrArg UInt8.toNat h
    rw [UInt8.toNat_ofNat'] at this
    have h48 : (48 : UInt8).toNat = 48 := rfl
    rw [h48] at this
    omega
  rw [e2, List.dropWhile_cons, if_neg]
  intro h
  have h4 : (UInt8.ofNat (48 + (lowD p).getLast hne) == 48) = true := h
  rw [h3] at h4; cases h4
/-- the pieces from the i-th on -/
theorem lowP_cons {p : Nat} {l : List Nat} (h : l ≠ []) : lowP (p :: l) = padD 9 p ++ lowP l := by
  cases l with
  | nil => exact absurd rfl h
  | cons q l => rfl
theorem asc_len (l : List Nat) : (asc l).length = l.length := by simp [asc]
end Go.Proofs.YtannhpadoooedaaGreatDoor.Num

/- Rows of bytes of the call's own; the reference's Text. -/
namespace Go.Proofs.YtannhpadoooedaaGreatDoor
open Num
open Go.ChangeShapes Go.WideShapes Go.ChangeAt Go.RowKit
set_option linter.unusedVariables false
set_option linter.unusedSimpArgs false
theorem info8 : (Tryz.prog.info? 5).map (fun i => (i.zero, i.size, i.bytes)) = some (some (.int .u8 0), 1, 1) := by kernel_rfl
theorem el8 : Elt Tryz.prog 185 5 1 1 := Elt.mk' Tryz.underlying185 info8 rfl (by decide) (by decide)
/-- bytes of the call's own -/
def Own8 (w0 wr : World) (v : Value) (L : List UInt8) : Prop := OwnE 5 1 w0 wr v L.length (Lib.byteCells L)
theorem Own8.below {w0 wr w' : World} {v : Value} {L : List UInt8} (h : Own8 w0 wr v L) (hb : Below wr.heap.size wr w') : Own8 w0 w' v L := OwnE.below h hb
theorem Own8.nil {w0 wr : World} (hb : Below w0.heap.size w0 wr) : Own8 w0 wr (.slice none 0 0) [] := OwnE.nil _ _ hb
theorem bcells_app (l m : List UInt8) : Lib.byteCells (l ++ m) = Lib.byteCells l ++ Lib.byteCells m := by simp [Lib.byteCells]
theorem bcells_get (l : List UInt8) (k : Nat) (h : k < l.length) : (Lib.byteCells l)[k]? = some (.int .u8 ((l.getD k 0).toNat : Nat)) := by simp [Lib.byteCells, h]
theorem Own8.ex {w0 wr : World} {v : Value} {L : List UInt8} (h : Own8 w0 wr v L) : (v = .slice none 0 0 ∧ L = []) ∨ ∃ g cap, v = .slice (some ⟨g, 0, none⟩) L.length cap ∧ w0.heap.size ≤ g ∧ L.length ≤ cap := by
  obtain ⟨⟨h0, h⟩, _⟩ := h
  rcases h with ⟨rfl, h1⟩ | ⟨g, cap, cur, rfl, hg, _, hc, _⟩
  · exact .inl ⟨rfl, List.length_eq_zero_iff.1 h1⟩
  · exact .inr ⟨g, cap, rfl, hg, hc⟩
theorem Own8.cell {w0 wr : World} {g cap : Nat} {L : List UInt8} (h : Own8 w0 wr (.slice (some ⟨g, 0, none⟩) L.length cap) L) (k : Nat) (hk : k < L.length) : wr.cell? ⟨g, k, none⟩ = some (.int .u8 ((L.getD k 0).toNat : Nat)) := by
  rw [World.ownsRow.cellAt h.1 k (by omega), bcells_get L k hk]
theorem Own8.frozen {w0 wr : World} {g cap : Nat} {L : List UInt8} (h : Own8 w0 wr (.slice (some ⟨g, 0, none⟩) L.length cap) L) (k : Nat) : wr.frozen? ⟨g, k, none⟩ = false := World.ownsRow.frozenAt h.1 k
theorem Own8.set {w0 wr : World} {g cap : Nat} {L : List UInt8} (h : Own8 w0 wr (.slice (some ⟨g, 0, none⟩) L.length cap) L) (k : Nat) (x : UInt8) (hg : w0.heap.size ≤ g) : Own8 w0 (wr.setCell ⟨g, k, none⟩ (.int .u8 (x.toNat : Nat))) (.slice (some ⟨g, 0, none⟩) L.length cap) (L.set k x) := by
  obtain ⟨⟨hl, h1⟩, hB⟩ := h
  rcases h1 with ⟨h2, _⟩ | ⟨g', cap', cur, h2, hg', hh, hc, hm, hs, ht⟩
  · cases h2
  · cases h2
    refine ⟨⟨by simp [Lib.byteCells], .inr ⟨g, cap, cur.setIfInBounds k (.int .u8 (x.toNat : Nat)), by simp, hg', ?_, by simpa using hc, hm, by simpa using hs, ?_⟩⟩, bset hB (by exact hg) _⟩
    · unfold World.setCell
      simp only [Array.getElem?_modify, if_true]
      rw [hh]; rfl
    · rw [Array.toList_setIfInBounds, List.length_set, List.take_set, ht]
      simp [Lib.byteCells, List.map_set]
theorem Own8.str {w0 wr : World} {a : Option Addr} {c : Nat} {L : List UInt8} (h : Own8 w0 wr (.slice a L.length c) L) : (convert 185 9 (.slice a L.length c)).run Tryz.prog wr = .ok (.string ⟨L.toArray⟩) wr := by
  rcases h.ex with ⟨h1, h2⟩ | ⟨g, cap, h1, _⟩
  · subst h2
    cases h1
    exact run_convert_bytes_nil wr 185 5 Tryz.underlying185 Tryz.underlying5 0 0 9 Tryz.underlying9
  · cases h1
    refine run_convert_bytes_back wr 185 9 5 ⟨g, 0, none⟩ c L Tryz.underlying185 Tryz.underlying5 Tryz.underlying9 fun j hj => ?_
    have := h.cell j hj
    unfold Addr.add
    split
    · subst_vars; simpa [hj] using this
    · simpa [hj] using this
namespace Num
def dig (d : Nat) : UInt8 := UInt8.ofNat (48 + d)
theorem dig_nat {d : Nat} (h : d < 10) : (dig d).toNat = 48 + d := by
  unfold dig; rw [UInt8.toNat_ofNat']; omega
theorem asc_eq (l : List Nat) : asc l = (l.map dig).reverse := by unfold asc; rw [← List.map_reverse]; rfl
/-- turned about so far -/
def turned (T : List UInt8) (i : Nat) : List UInt8 := (List.range T.length).map fun j => if j < i ∨ T.length - 1 - j < i then T.getD (T.length - 1 - j) 0 else T.getD j 0
end Num


end Go.Proofs.YtannhpadoooedaaGreatDoor

/- limb: Text. -/
namespace Go.Proofs.YtannhpadoooedaaGreatDoor
open Num
open Go.ChangeShapes Go.WideShapes Go.ChangeAt Go.RowKit
set_option linter.unusedVariables false
set_option linter.unusedSimpArgs false
theorem app32l {ops : Array Oper} {rest : List Oper} {o : Oper} {a : Act} {Q : Exit → Act → World → Prop} {w0 wr : World} {v : Value} {L X : List Nat} {t : TypeId} (hgd : o.guard = none) {s x : Operand}
    (ho : o.op = .call { callee := .builtin .append, args := #[s, x], argTypes := #[42, 42] }) (hO : Own32 w0 wr v L) (hs : a.eval s = v)
    {c : Nat} (hx : a.eval x = .slice (some ⟨wr.heap.size, 0, none⟩) X.length c) (hn : L.length + X.length ≤ 1099511627776)
    (h : ∀ v' w', Own32 w0 w' v' (L ++ X) → (∀ (ad : Option Addr) (cd : Nat) (M : List Nat), U32 wr ad cd M → (∀ g f, ad = some ⟨g, f, none⟩ → v.ownBlock ≠ some g) → U32 w' ad cd M) → wpList Tryz.prog ops Q rest (a.put o.dst v') w') : wpList Tryz.prog ops Q (o :: rest) a (wr.alloc (.cells (cel X).toArray t)) := by
  obtain ⟨i, z, hi, hz, hsize, hby, hzs⟩ := el32.info
  refine wpList_append_own _ hgd s x 42 ho w0.heap.size 137 i z 1 4 el32.ht hi hz hsize hby hzs el32.pos v L.length (cel L) hs (hO.1.alloc _) ⟨wr.heap.size, 0, none⟩ X.length c (cel X) hx (by rw [cel_len, Nat.mul_one]) (cells_new wr _ t) (cel_one X) (by unfold maxLen; omega) (by omega) (by have := hO.2.size; simp; omega) ?_
  intro v' w' hown hg _
  have ho : Out (fun k => v.ownBlock = some k) wr w' := ((Out.refl _ wr).alloc _).grown hg fun k hk _ => hk
  exact h v' w' ⟨by rw [cel_app, List.length_append]; exact hown, below_append (wr := wr) (bal hO.2 _) (hO.1.alloc _) hg⟩ fun ad cd M hu hne => hu.okeep ho fun q f e hq => hne q f e hq
theorem Bld.keep {B b : Nat} {l : List UInt8} {w w' : World} (h : Bld B b l w) (hb : Below w.heap.size w w') : Bld B b l w' := by
  have key : ∀ p, Lib.BuilderAt 202 5 B b p (Lib.byteCells l) w → Lib.BuilderAt 202 5 B b p (Lib.byteCells l) w' := by
    rintro p ⟨h1, v, h2, h3, h4⟩
    exact ⟨h1, v, (hb.block b (Array.getElem?_eq_some_iff.1 h2).1).trans h2, own_below (w0 := w) h3 hb, h4⟩
  rcases h with h | h
  · exact .inl (key _ h)
  · exact .inr (key _ h)
theorem Bld.new {w : World} {b : Nat} (hb : b = w.heap.size) : Bld b b [] (w.alloc (.cells #[.pointer none, .slice none 0 0] 202)) := by
  subst hb
  exact .inl ⟨Nat.le_refl _, .slice none 0 0, (MapKept.heap_alloc w _).1, World.ownsRow_nil _ _ _ _, by simp [Value.ownBlock]⟩
theorem pcs_len (k : Nat) : ∀ n, n < 2 ^ k → (pcs n).length ≤ k := by
  induction k with
  | zero => intro n h; obtain rfl : n = 0 := by simpa using h
            rw [pcs_zero]; simp
  | succ k ih =>
    intro n h
    by_cases h0 : 0 < n
    · rw [pcs_pos h0]
      have := ih (n / 1000000000) (by rw [Nat.pow_succ] at h; omega)
      simp; exact this
    · obtain rfl : n = 0 := by omega
      rw [pcs_zero]; simp
theorem pcs_bound {l : List Nat} (hl : Limbs l) (h1 : l.length ≤ 67108865) {P Q : List Nat} (h : pcs (val l) = P ++ Q) : P.length ≤ 2147483680 := by
  have h2 := val_lt hl
  rw [BB_pow] at h2
  have h3 := pcs_len _ _ h2
  rw [h, List.length_append] at h3
  omega
/-- what nine bytes hold when j noughts are left -/
def Z9 (j m p : Nat) : List UInt8 := List.replicate j 0 ++ asc (padD m p)
theorem Z9_len (j m p : Nat) : (Z9 j m p).length = j + m := by simp [Z9, asc_len, padD_len]
theorem rep_set (j : Nat) (T : List UInt8) (d : UInt8) : (List.replicate (j + 1) 0 ++ T).set j d = List.replicate j 0 ++ d :: T := by
  induction j with
  | zero => rfl
  | succ j ih =>
    rw [List.replicate_succ, List.cons_append, List.set_cons_succ, ih]; rfl
theorem Z9_step (j m p : Nat) : (Z9 (j + 1) m p).set j (dig (p / 10 ^ m % 10)) = Z9 j (m + 1) p := by
  unfold Z9
  rw [rep_set, padD_snoc, asc_append]; rfl
theorem Z9_end (p : Nat) : Z9 0 9 p = asc (padD 9 p) := rfl
theorem lowP_top {P : List Nat} {k : Nat} (h : k + 1 = P.length) : lowP (P.drop k) = lowD (P.getD k 0) := by
  have e : P.drop k = [P.getD k 0] := by
    rw [List.drop_eq_getElem_cons (by omega), List.drop_eq_nil_of_le (by omega)]
    simp [List.getElem?_eq_getElem (show k < P.length by omega)]
  rw [e]; rfl
theorem lowP_low {P : List Nat} {k : Nat} (h : k + 1 < P.length) : lowP (P.drop k) = padD 9 (P.getD k 0) ++ lowP (P.drop (k + 1)) := by
  rw [List.drop_eq_getElem_cons (by omega), lowP_cons (by intro h0; have := congrArg List.length h0; simp at this; omega)]
  simp [List.getElem?_eq_getElem (show k < P.length by omega)]
theorem lowP_len : ∀ L : List Nat, (∀ x ∈ L, x < 1000000000) → (lowP L).length ≤ 9 * L.length
  | [], _ => by simp [lowP]
  | [p], h => by
    have := (padD_low 9 p (h p (by simp))).2
    simpa [lowP] using this
  | p :: q :: L, h => by
    have := lowP_len (q :: L) (fun x hx => h x (List.mem_cons_of_mem _ hx))
    rw [lowP_cons (by simp), List.length_append, padD_len]
    simp only [List.length_cons] at this ⊢
    omega
theorem zeroArr9 : ∀ w, (zeroValue 229).run Tryz.prog w = .ok (.agg #[.int .u8 0, .int .u8 0, .int .u8 0, .int .u8 0, .int .u8 0, .int .u8 0, .int .u8 0, .int .u8 0, .int .u8 0]) w := fun w => by kernel_rfl
/-- nine bytes in a block -/
structure Arr9 (w : World) (g : Nat) (Z : List UInt8) : Prop where
  cell : ∀ j, j < 9 → w.cell? ⟨g, j, none⟩ = some (.int .u8 ((Z.getD j 0).toNat : Nat))
  free : ∀ j, w.frozen? ⟨g, j, none⟩ = false
theorem Arr9.new (w : World) (p : Nat) : Arr9 (w.alloc (.cells #[.int .u8 0, .int .u8 0, .int .u8 0, .int .u8 0, .int .u8 0, .int .u8 0, .int .u8 0, .int .u8 0, .int .u8 0] 229)) w.heap.size (Z9 9 0 p) := by
  have hz : ∀ j, (Z9 9 0 p).getD j 0 = 0 := fun j => by
    simp [Z9, asc, padD]
    exact match j with | 0 => rfl | 1 => rfl | 2 => rfl | 3 => rfl | 4 => rfl | 5 => rfl | 6 => rfl | 7 => rfl | 8 => rfl | n + 9 => rfl
  refine ⟨fun j hj => ?_, fun j => by rw [World.frozen?_alloc_at (hn := by simp)]⟩
  rw [hz]
  refine cell_new rfl ?_
  have : j = 0 ∨ j = 1 ∨ j = 2 ∨ j = 3 ∨ j = 4 ∨ j = 5 ∨ j = 6 ∨ j = 7 ∨ j = 8 := by omega
  rcases this with rfl | rfl | rfl | rfl | rfl | rfl | rfl | rfl | rfl <;> rfl
theorem Arr9.set {w : World} {g : Nat} {Z : List UInt8} (h : Arr9 w g Z) (hZ : Z.length = 9) {k : Nat} (hk : k < 9) (x : UInt8) : Arr9 (w.setCell ⟨g, k, none⟩ (.int .u8 (x.toNat : Nat))) g (Z.set k x) := by
  refine ⟨fun j hj => ?_, fun j => by rw [World.frozen?_setCell]; exact h.free j⟩
  by_cases e : k = j
  · subst e
    rw [cell_here (h.cell k hk)]
    simp [hZ, hk]
  · rw [cell_far (h.cell j hj) (by first | (simp; done) | (simp; exact e))]
    simp [List.getElem?_set_ne e]

set_option maxRecDepth 100000 in
set_option maxHeartbeats 8000000 in
theorem limbText_c (a : Option Addr) (ca : Nat) (l : List Nat) (w : World) (ha : U32 w a ca l) (h1 : l.length ≤ 67108865) :
    Calls Tryz.prog 170 #[.slice a l.length ca] w fun e w' => e = .returned (.string ⟨(natTxt (val l)).toArray⟩) ∧ Below w.heap.size w w' := by
  have nc := limbNorm_c a ca l w ha (by omega)
  have HTV := Lib.hid (val_trim l)
  have hTN := trim_nrm l
  have hTl := Nat.le_trans (trim_len l) h1
  have HPL := Lib.hid (show ∀ P Q, pcs (val l) = P ++ Q → P.length ≤ 2147483680 from fun P Q h => pcs_bound ha.2.2.1 h1 h)
  generalize trimL l = T at *
  go_enter Tryz.func170, Tryz.ntmps170
  go_wp2_with fail
  refine nc.mono ?_
  rintro e w0 ⟨⟨a0, rfl, hu0⟩, hb0⟩
  clear nc
  go_wp2
  go_loopg [3, 4] (val T) (fun gk d v wr => ∃ (P : List Nat) (ad : Option Addr) (cd : Nat) (L : List Nat), v = .slice ad L.length cd ∧ U32 wr ad cd L ∧ Nrm L ∧ L.length ≤ 67108865 ∧ gk = val L ∧ Own32 w0 wr d P ∧ pcs (val l) = P ++ pcs (val L))
  case atStart => exact ⟨[], a0, _, T, rfl, hu0, hTN, hTl, rfl, Own32.nil (Below.refl _ _), by rw [HTV.out]; rfl⟩
  case round =>
    obtain ⟨P, ad, cd, L, rfl, hu, hn, hlm, hgk, hO, hP⟩ := hrel
    have HP := Lib.hid (And.intro hgk hP)
    clear hgk hP
    have hPl : P.length ≤ 2147483680 := HPL.out _ _ HP.out.2
    by_cases hL : 0 < L.length
    · have hLz : (0 : Int) < (L.length : Int) := by omega
      have hv0 : 0 < val L := by
        have h1 := nrm_val_pos hn (List.length_pos_iff.1 hL)
        have : 0 < BB ^ (L.length - 1) := Nat.pow_pos BB_pos
        omega
      have dc := fun (W : World) (h : Below wr.heap.size wr W) => divSmallF_c ad cd L 1000000000 W (hu.keep h) (by omega) (by omega) (by unfold BB; omega)
      have HN := Lib.hid (show pcs (val L) = val L % 1000000000 :: pcs (val L / 1000000000) from pcs_pos hv0)
      have HLT := Lib.hid (show val L / 1000000000 < val L by omega)
      have hr9 : val L % 1000000000 < 1000000000 := Nat.mod_lt _ (by omega)
      have HQL := Lib.hid (show ∀ Q : List Nat, Nrm Q → val Q = val L / 1000000000 → Q.length ≤ 67108865 from fun Q hQ hv => by
        refine Nat.le_trans (nrm_len_le (k := L.length) hQ ?_) hlm
        have := val_lt hu.2.2.1
        omega)
      go_wp2_with fail
      refine (dc _ (Below.refl _ _)).mono ?_
      rintro e w2 ⟨⟨u, rfl, hq, hqf⟩, hb2⟩
      have hO2 := hO.below hb2
      have HLT2 := Lib.hid hO.1.lt
      have HQF := Lib.hid hqf
      clear dc hO hu hqf
      obtain ⟨aq, nq, Lq, rfl, rfl, hqu, hqn, hqv⟩ := hq
      have hLqm := HQL.out Lq hqn hqv
      have HV := Lib.hid hqv
      clear hqv
      obtain ⟨r, hr⟩ : ∃ r, r = val L % 1000000000 := ⟨_, rfl⟩
      rw [← hr] at hr9
      have HR := Lib.hid hr
      rw [← hr]
      clear hr
      go_wp2_with (at_builtin; refine app32l (X := [r]) rfl rfl hO2 rfl rfl ?_ ?_; (simp; omega); intro v' w3 hO3 hlim3)
      go_roundg (val L / 1000000000)
      case measure => rw [HP.out.1]; exact HLT.out
      case rel => exact ⟨P ++ [r], aq, _, Lq, rfl, hlim3 aq _ Lq hqu (fun g f e h => by have h1 := (HLT2.out g h).2; have h2 := HQF.out g f _ _ (by rw [e]); omega), hqn, hLqm, HV.out.symm, hO3, by rw [HV.out, HP.out.2, HN.out, HR.out]; simp⟩
    · obtain rfl : L = [] := List.length_eq_zero_iff.1 (by omega)
      have hPN := HP.out.2
      rw [show val [] = 0 from rfl, pcs_zero, List.append_nil] at hPN
      have hB2 := bthen hb0 hO.2
      by_cases hP0 : P = []
      · subst hP0
        have hN0 : val l = 0 := by
          apply Nat.eq_zero_of_not_pos; intro h
          exact pcs_ne h hPN
        have HE := Lib.hid (show natTxt (val l) = [48] by rw [hN0]; rfl)
        rcases hO.ex with ⟨a9, c9, rfl⟩
        clear hPN hN0 hu hO
        simp only [List.length_nil]
        go_wp2
        go_ret
        exact ⟨by rw [HE.out]; rfl, hB2⟩
      · have hN0 : 0 < val l := by
          apply Nat.pos_of_ne_zero; intro h
          rw [h, pcs_zero] at hPN
          exact hP0 hPN.symm
        have HPN := Lib.hid hPN
        have HN0 := Lib.hid hN0
        have hPz : ((P.length : Int) == 0) = false := by rw [beq_eq_false_iff_ne]; have := List.length_pos_iff.2 hP0; omega
        obtain ⟨a9, c9, rfl, hPU⟩ := hO.u32 (L := P) (fun x hx => by
          have := pcs_lt (val l) x (by rw [HPN.out]; exact hx)
          unfold BB; omega)
        rcases hPU.2.2.2 with h0 | ⟨bp, op, rfl, hPc⟩
        · exact absurd h0 hP0
        clear hPN hN0 hu hO hPU
        have HPL9 := Lib.hid (show ∀ x ∈ P, x < 1000000000 from fun x hx => pcs_lt (val l) x (by rw [HPN.out]; exact hx))
        have HLST := Lib.hid (show ∀ h : P ≠ [], 0 < P.getLast h from by rw [← HPN.out]; exact pcs_last (val l))
        have HE := Lib.hid (show natTxt (val l) = asc (lowP P) by rw [← HPN.out, lowP_pcs]; unfold natTxt; rw [if_neg (by have := HN0.out; omega)])
        have hza := zeroArr9
        have hbp := cell_lt (hPc 0 (List.length_pos_iff.2 hP0))
        simp only [List.length_nil]
        go_wp2
        go_loopw [9] (fun x wx => ∃ k : Nat, k ≤ P.length ∧ x = .int .i64 ((k : Int) - 1) ∧ Bld wr.heap.size wr.heap.size (asc (lowP (P.drop k))) wx ∧ Below wr.heap.size wr wx ∧ wr.heap.size < wx.heap.size) (fun x _ => (intOf x + 1).toNat)
        case atStart => exact ⟨P.length, Nat.le_refl _, rfl, by rw [List.drop_length]; exact Bld.new rfl, bal (Below.refl _ _) _, by simp⟩
        case round =>
          rename World => wx
          obtain ⟨k, hk, rfl, hBd, hBx, hsx⟩ := hrel
          cases k with
          | zero =>
            clear hza
            rw [List.drop_zero] at hBd
            go_wp2_with fail
            refine (bstring_c wr.heap.size wr.heap.size _ _ hBd hBx.size).mono ?_
            rintro e w6 ⟨rfl, hb6⟩
            go_wp2
            go_ret
            exact ⟨by rw [HE.out]; rfl, bthen hB2 (hBx.trans hb6)⟩
          | succ k =>
            have hp9 : P.getD k 0 < 1000000000 := HPL9.out _ (by rw [List.getD_eq_getElem?_getD, List.getElem?_eq_getElem (by omega)]; exact List.getElem_mem _)
            have HTOP := Lib.hid (show k + 1 = P.length → 0 < P.getD k 0 from fun h => by
              have h2 := HLST.out hP0
              rw [List.getLast_eq_getElem] at h2
              rw [List.getD_eq_getElem?_getD, List.getElem?_eq_getElem (by omega)]
              have e : P.length - 1 = k := by omega
              simp only [e] at h2
              exact h2)
            have HTP := Lib.hid (show k + 1 = P.length → lowP (P.drop k) = lowD (P.getD k 0) from fun h => lowP_top h)
            have HLO := Lib.hid (show k + 1 < P.length → lowP (P.drop k) = padD 9 (P.getD k 0) ++ lowP (P.drop (k + 1)) from fun h => lowP_low h)
            have q0 := bkeep hBx (hPc k (by omega))
            generalize P.getD k 0 = p at *
            have hkl : (k : Int) < (P.length : Int) := by omega
            have q1 := cell_alloc q0 (.cells #[.int .u8 0, .int .u8 0, .int .u8 0, .int .u8 0, .int .u8 0, .int .u8 0, .int .u8 0, .int .u8 0, .int .u8 0] 229)
            rw [show (((k + 1 : Nat) : Int) - 1) = (k : Int) from by omega]
            go_wp2
            go_loopw [11, 12] (fun xv kv wi => ∃ j m : Nat, j + m = 9 ∧ kv = .int .i64 ((j : Int) - 1) ∧ xv = .int .u32 ((p / 10 ^ m : Nat) : Int) ∧ Arr9 wi wx.heap.size (Z9 j m p) ∧ Below wx.heap.size wx wi ∧ wx.heap.size < wi.heap.size) (fun _ kv _ => (intOf kv + 1).toNat)
            case atStart => exact ⟨9, 0, rfl, rfl, by simp, Arr9.new wx p, bal (Below.refl _ _) _, by simp⟩
            case round =>
              rename World => wi
              obtain ⟨j, m, hjm, rfl, rfl, hA, hBi, hsi⟩ := hrel
              cases j with
              | zero =>
                obtain rfl : m = 9 := by omega
                have hBy : Bld wr.heap.size wr.heap.size (asc (lowP (P.drop (k + 1)))) wi := hBd.keep hBi
                have hsl : (convert 185 9 (.slice (some ⟨wx.heap.size, 0, none⟩) 9 9)).run Tryz.prog wi = .ok (.string ⟨(asc (padD 9 p)).toArray⟩) wi := by
                  have hl9 : (asc (padD 9 p)).length = 9 := by rw [asc_len, padD_len]
                  have := run_convert_bytes_back (P := Tryz.prog) wi 185 9 5 ⟨wx.heap.size, 0, none⟩ 9 (asc (padD 9 p)) Tryz.underlying185 Tryz.underlying5 Tryz.underlying9 (fun j hj => by
                    have h := hA.cell j (by omega)
                    rw [Z9_end] at h
                    unfold Addr.add
                    split
                    · subst_vars; simpa [hj] using h
                    · simpa [hj] using h)
                  rwa [hl9] at this
                have hBw := bthen hBx hBi
                clear hA hBi hBd hza q0 q1
                have hsw := hBw.size
                have hll : (asc (lowP (P.drop (k + 1)))).length ≤ 19327353120 := by
                  have h1 := lowP_len (P.drop (k + 1)) (fun x hx => HPL9.out x (List.mem_of_mem_drop hx))
                  rw [asc_len]
                  have h2 : (P.drop (k + 1)).length ≤ P.length := by rw [List.length_drop]; omega
                  omega
                by_cases hk1 : k + 1 = P.length
                · have ht : ((k : Int) == (P.length : Int) - 1) = true := by rw [beq_iff_eq]; omega
                  have HEQ := Lib.hid (show asc (lowP (P.drop (k + 1))) ++ asc (lowD p) = asc (lowP (P.drop k)) by
                    rw [HTP.out hk1, List.drop_eq_nil_of_le (by omega)]; rfl)
                  have htr := fun W => trimLeft_c ⟨(asc (padD 9 p)).toArray⟩ W
                  rw [show Lib.trimLeftB (ByteArray.mk (asc (padD 9 p)).toArray).data.toList 48 = asc (lowD p) from asc_pad_top (HTOP.out hk1) hp9] at htr
                  have hld : (asc (lowD p)).length ≤ 9 := by rw [asc_len]; exact (padD_low 9 p hp9).2
                  clear hk1
                  generalize asc (padD 9 p) = tx at *
                  generalize asc (lowD p) = ty at *
                  generalize asc (lowP (P.drop (k + 1))) = lx at *
                  go_wp2_with fail
                  refine (htr _).mono ?_
                  rintro e w5 ⟨rfl, rfl⟩
                  clear htr
                  go_wp2_with fail
                  refine (bwrite_c wr.heap.size wr.heap.size lx ⟨ty.toArray⟩ _ hBy (by show lx.length + ty.length ≤ _; omega) hsw).mono ?_
                  rintro e w6 ⟨rfl, hBz, hb6⟩
                  go_wp2
                  exact ⟨⟨k, by omega, by go_num, by rw [← HEQ.out]; exact hBz, hBw.trans hb6, by have := hb6.size; omega⟩, by simp [intOf]⟩
                · have ht : ((k : Int) == (P.length : Int) - 1) = false := by rw [beq_eq_false_iff_ne]; omega
                  have HEQ := Lib.hid (show asc (lowP (P.drop (k + 1))) ++ asc (padD 9 p) = asc (lowP (P.drop k)) by
                    rw [HLO.out (by omega), asc_append])
                  have hld : (asc (padD 9 p)).length ≤ 9 := by rw [asc_len, padD_len]; omega
                  clear hk1
                  generalize asc (padD 9 p) = ty at *
                  generalize asc (lowP (P.drop (k + 1))) = lx at *
                  go_wp2_with fail
                  refine (bwrite_c wr.heap.size wr.heap.size lx ⟨ty.toArray⟩ _ hBy (by show lx.length + ty.length ≤ _; omega) hsw).mono ?_
                  rintro e w6 ⟨rfl, hBz, hb6⟩
                  go_wp2
                  exact ⟨⟨k, by omega, by go_num, by rw [← HEQ.out]; exact hBz, hBw.trans hb6, by have := hb6.size; omega⟩, by simp [intOf]⟩
              | succ j =>
                have HS := Lib.hid (Z9_step j m p)
                have HQ := Lib.hid (show p / 10 ^ (m + 1) = p / 10 ^ m / 10 by rw [Nat.pow_succ, Nat.div_div_eq_div_mul])
                have hZl := Z9_len (j + 1) m p
                rw [show (((j + 1 : Nat) : Int) - 1) = (j : Int) from by omega]
                have hj9 : (j : Int) < 9 := by omega
                have qc := hA.cell j (by omega)
                have qf := hA.free j
                have hAn := hA.set (k := j) (by rw [hZl, hjm]) (by omega) (dig (p / 10 ^ m % 10))
                rw [HS.out] at hAn
                have hq9 : p / 10 ^ m < 4294967296 := Nat.lt_of_le_of_lt (Nat.div_le_self _ _) (by omega)
                generalize p / 10 ^ m = q at *
                have hc10 : q % 10 < 10 := by omega
                obtain ⟨bb, hbb⟩ : ∃ bb, bb = dig (q % 10) := ⟨_, rfl⟩
                rw [← hbb] at hAn
                have e3 : (q : Int).tmod 10 = ((q % 10 : Nat) : Int) := rfl
                have e4 : (q : Int).tdiv 10 = ((q / 10 : Nat) : Int) := rfl
                have e5 : ((q / 10 : Nat) : Int) % 4294967296 = ((q / 10 : Nat) : Int) := by omega
                have hb1 : (48 : Int) + ((q % 10 : Nat) : Int) = (bb.toNat : Int) := by rw [hbb, dig_nat hc10]; omega
                have hb2 : (bb.toNat : Int) % 256 = (bb.toNat : Int) := by have := bb.toNat_lt; omega
                have hb3 : IntKind.u32.wrap (bb.toNat : Int) = (bb.toNat : Int) := w32 (by have := bb.toNat_lt; unfold BB; omega)
                have HBB := Lib.hid hbb
                have HAN := Lib.hid hAn
                clear hbb hAn hZl
                generalize q % 10 = c10 at *
                generalize q / 10 = q10 at *
                go_wp2
                refine ⟨⟨j, m + 1, by omega, by go_num, by rw [HQ.out], HAN.out, bset hBi (by simp) _, by simpa using hsi⟩, by simp [intOf]⟩
end Go.Proofs.YtannhpadoooedaaGreatDoor

