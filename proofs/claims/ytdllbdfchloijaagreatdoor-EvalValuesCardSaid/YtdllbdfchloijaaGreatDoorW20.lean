/- Texts of this seat, laid together: ExG, ExH, RtB, RtC. Each opens with its own remark, which says what it proves, and under which conditions. -/
import Derived.Test.YtdllbdfchloijaaGreatDoorW19
import Derived.Test.YtdllbdfchloijaaGreatDoorW15
import Derived.Test.YtdllbdfchloijaaGreatDoorW12
import Derived.Test.YtdllbdfchloijaaGreatDoorW02
import Derived.Deep.LoopGhost
import Derived.Test.YtdllbdfchloijaaGreatDoorW17
import Derived.Test.YtdllbdfchloijaaGreatDoorW14
set_option linter.unusedVariables false
set_option linter.unusedSimpArgs false
/- exact: what an instruction does to rows (do at []integer.Int). -/
namespace Go.Proofs.YtdllbdfchloijaaGreatDoor
open Num
open Go.ChangeShapes Go.WideShapes Go.ChangeAt Go.RowKit
set_option linter.unusedVariables false
set_option linter.unusedSimpArgs false
attribute [local go_sem ↓] Go.wp_at_zero Go.wp_at_succ
theorem opI_div (t a b c x y : Int) : opI ⟨6, t, a, b, c⟩ x y = if x % c = 0 then some (x / c) else none := by simp [opI]
theorem opI_shr (t a b x y : Int) (m : Nat) : opI ⟨8, t, a, b, (m : Int)⟩ x y = if x % 2 ^ m = 0 then some (x / 2 ^ m) else none := by simp [opI]
/-- the registers in a block that may be written -/
structure RegsP (base : Nat) (w : World) (rb : Nat) (g : Grid) : Prop where
  free : Free w rb
  ty : typOf w rb = some 43
  cell : ∀ k, k < g.length → ∃ u, w.cell? ⟨rb, k, none⟩ = some u ∧ PRow base w u (g.getD k [])
theorem RegsP.rebase {base base' rb : Nat} {w : World} {g : Grid} (h : RegsP base w rb g) (hb : base' ≤ base) : RegsP base' w rb g := ⟨h.free, h.ty, fun j hj => by obtain ⟨u, hu, hr⟩ := h.cell j hj; exact ⟨u, hu, hr.rebase hb⟩⟩
theorem RegsP.keep {base rb : Nat} {w w' : World} {g : Grid} (h : RegsP base w rb g) (k : Below w.heap.size w w') : RegsP base w' rb g :=
  ⟨h.free.keep k, typ_keep h.ty k, fun j hj => by obtain ⟨u, hu, hr⟩ := h.cell j hj; exact ⟨u, bkeep k hu, hr.keep lims_int k⟩⟩
/-- one of them is set -/
theorem RegsP.step {base rb nt : Nat} {w : World} {g : Grid} {v : Value} {r : List Int} (h : RegsP base w rb g) (hv : PRow base w v r) (ht : nt < g.length) : RegsP base (w.setCell ⟨rb, nt, none⟩ v) rb (g.set nt r) := by
  have hk : Kp (· ≠ 43) w (w.setCell ⟨rb, nt, none⟩ v) := (Kp.refl _ w).set (fun t ht => by rw [h.ty] at ht; cases ht; exact fun k => k rfl) _
  refine ⟨h.free.set _ _, by rw [typ_set]; exact h.ty, fun k hk' => ?_⟩
  rw [List.length_set] at hk'
  by_cases e : nt = k
  · subst e
    obtain ⟨u, hu, _⟩ := h.cell nt hk'
    refine ⟨v, cell_here hu _, ?_⟩
    have : (g.set nt r).getD nt [] = r := by simp [hk']
    rw [this]
    exact hv.kp lims_int hk (by decide) (by decide)
  · obtain ⟨u, hu, hr⟩ := h.cell k hk'
    refine ⟨u, cell_far hu (fun e2 => e (by cases e2; rfl)) _, ?_⟩
    have : (g.set nt r).getD k [] = g.getD k [] := by simp [List.getElem?_set_ne e]
    rw [this]
    exact hr.kp lims_int hk (by decide) (by decide)
/-- how rows are calculated with -/
def rowsV : Value := .agg #[.func (.func 124) #[] #[], .func (.func 125) #[] #[], .func (.func 127) #[] #[], .func (.func 129) #[] #[], .func (.func 130) #[] #[]]
theorem rowsV_c (w : World) : Calls Tryz.prog 81 #[] w fun e w' => e = .returned rowsV ∧ Below w.heap.size w w' := by
  have hB := Below.refl w.heap.size w
  go_enter Tryz.func81, Tryz.ntmps81
  go_wp2
  refine bodyPost_ret (v := rowsV) (by simp [rowsV, results, Tryz.results81, go_sem, *]) rfl ⟨rfl, ?_⟩
  repeat (first | exact Below.refl _ _ | exact hB | refine Below.drew ?_ | refine below_drewN ?_ _ | refine bset ?_ (by simp <;> omega) _ | refine bal ?_ _)
set_option maxRecDepth 100000 in
set_option maxHeartbeats 16000000 in
theorem doR_c (i : Ins) (k rb m : Nat) (g : Grid) (uz : Value) (w : World) {b0 : Nat} (hr : RegsP b0 w rb g) (hz : w.cell? ⟨rb, i.a.toNat, none⟩ = some uz) (hi : InsOk i g.length) (hR : Rect m g) (hm : m ≤ 1099511627775) (hb : BdG k g) (hk : k ≤ 4294967296) (hn : g.length ≤ 128) :
    Calls Tryz.prog 123 #[rowsV, .slice (some ⟨rb, 0, none⟩) g.length g.length, i.v] w (AnsL uz (stepR i (g.getD i.a.toNat []) (g.getD i.b.toNat [])) w) := by
  obtain ⟨o1, o2, t0, t1, a0, a1, b0, b1, hc⟩ := hi
  obtain ⟨op, it, ia, ib, ic⟩ := i
  dsimp only at o1 o2 t0 t1 a0 a1 b0 b1 hc ⊢
  obtain ⟨na, rfl⟩ : ∃ x : Nat, ia = x := ⟨ia.toNat, by omega⟩
  obtain ⟨nb, rfl⟩ : ∃ x : Nat, ib = x := ⟨ib.toNat, by omega⟩
  have a1' : na < g.length := by omega
  have b1' : nb < g.length := by omega
  rw [Int.toNat_natCast, Int.toNat_natCast]
  rw [Int.toNat_natCast] at hz
  obtain ⟨ua, x0, hx⟩ := hr.cell na a1'
  obtain rfl : ua = uz := Option.some.inj (x0.symm.trans hz)
  clear hz
  obtain ⟨ub, y0, hy⟩ := hr.cell nb b1'
  have HL := Lib.hid (And.intro (hR na a1') (hR nb b1'))
  have HBD := Lib.hid (And.intro (fun j => hb na j) (fun j => hb nb j))
  obtain ⟨A, hA⟩ : ∃ A, g.getD na [] = A := ⟨_, rfl⟩
  obtain ⟨B, hB'⟩ : ∃ B, g.getD nb [] = B := ⟨_, rfl⟩
  rw [hA] at HL HBD hx ⊢
  rw [hB'] at HL HBD hy ⊢
  obtain ⟨n, hnE⟩ : ∃ n, g.length = n := ⟨_, rfl⟩
  rw [hnE] at a1' b1' hn ⊢
  clear hA hB' hb hr hR t0 t1 a0 a1 b0 b1 hnE
  have HX := Lib.hid (hx.rebase (Nat.zero_le _))
  have HY := Lib.hid (hy.rebase (Nat.zero_le _))
  have HC := Lib.hid hc
  have hLA : A.length ≤ 1099511627775 := by rw [HL.out.1]; exact hm
  have HLA := Lib.hid hLA
  have HEQ := Lib.hid (show A.length = B.length by rw [HL.out.1, HL.out.2])
  have hga : (na : Int) < (n : Int) := by omega
  have hgb : (nb : Int) < (n : Int) := by omega
  obtain ⟨xa, xc, rfl, -⟩ := hx
  obtain ⟨ya, yc, rfl, -⟩ := hy
  clear hc hLA
  have zrb := cell_lt x0
  have hB := Below.refl w.heap.size w
  have hBw := Below.refl w.heap.size w
  unfold Ins.v rowsV
  dsimp only
  go_enter Tryz.func123, Tryz.ntmps123
  go_wp2
  refine wp_name fun w0 hW0 => ?_
  have f0 : w0.cell? ⟨w.heap.size, 0, none⟩ = some (.func (.func 124) #[] #[]) := by rw [hW0]; exact (by first | assumption | exact cell_new (by with_reducible first | rfl | (simp; done) | (simp; omega)) rfl | (repeat (first | assumption | exact cell_new (by with_reducible first | rfl | (simp; done) | (simp; omega)) rfl | refine cell_alloc ?_ _ | refine cell_drew ?_ | refine cell_drewN ?_ _ | refine cell_far ?_ (by simp) _ | (refine cell_far ?_ (by simp <;> omega) _))) | simp [go_sem, *])
  have zf0 := cell_lt f0
  have f1 : w0.cell? ⟨w.heap.size, 1, none⟩ = some (.func (.func 125) #[] #[]) := by rw [hW0]; exact (by first | assumption | exact cell_new (by with_reducible first | rfl | (simp; done) | (simp; omega)) rfl | (repeat (first | assumption | exact cell_new (by with_reducible first | rfl | (simp; done) | (simp; omega)) rfl | refine cell_alloc ?_ _ | refine cell_drew ?_ | refine cell_drewN ?_ _ | refine cell_far ?_ (by simp) _ | (refine cell_far ?_ (by simp <;> omega) _))) | simp [go_sem, *])
  have f2 : w0.cell? ⟨w.heap.size, 2, none⟩ = some (.func (.func 127) #[] #[]) := by rw [hW0]; exact (by first | assumption | exact cell_new (by with_reducible first | rfl | (simp; done) | (simp; omega)) rfl | (repeat (first | assumption | exact cell_new (by with_reducible first | rfl | (simp; done) | (simp; omega)) rfl | refine cell_alloc ?_ _ | refine cell_drew ?_ | refine cell_drewN ?_ _ | refine cell_far ?_ (by simp) _ | (refine cell_far ?_ (by simp <;> omega) _))) | simp [go_sem, *])
  have f3 : w0.cell? ⟨w.heap.size, 3, none⟩ = some (.func (.func 129) #[] #[]) := by rw [hW0]; exact (by first | assumption | exact cell_new (by with_reducible first | rfl | (simp; done) | (simp; omega)) rfl | (repeat (first | assumption | exact cell_new (by with_reducible first | rfl | (simp; done) | (simp; omega)) rfl | refine cell_alloc ?_ _ | refine cell_drew ?_ | refine cell_drewN ?_ _ | refine cell_far ?_ (by simp) _ | (refine cell_far ?_ (by simp <;> omega) _))) | simp [go_sem, *])
  have f4 : w0.cell? ⟨w.heap.size, 4, none⟩ = some (.func (.func 130) #[] #[]) := by rw [hW0]; exact (by first | assumption | exact cell_new (by with_reducible first | rfl | (simp; done) | (simp; omega)) rfl | (repeat (first | assumption | exact cell_new (by with_reducible first | rfl | (simp; done) | (simp; omega)) rfl | refine cell_alloc ?_ _ | refine cell_drew ?_ | refine cell_drewN ?_ _ | refine cell_far ?_ (by simp) _ | (refine cell_far ?_ (by simp <;> omega) _))) | simp [go_sem, *])
  have i0 : w0.cell? ⟨w.heap.size + 1, 0, none⟩ = some (.int .i64 op) := by rw [hW0]; exact (by first | assumption | exact cell_new (by with_reducible first | rfl | (simp; done) | (simp; omega)) rfl | (repeat (first | assumption | exact cell_new (by with_reducible first | rfl | (simp; done) | (simp; omega)) rfl | refine cell_alloc ?_ _ | refine cell_drew ?_ | refine cell_drewN ?_ _ | refine cell_far ?_ (by simp) _ | (refine cell_far ?_ (by simp <;> omega) _))) | simp [go_sem, *])
  have zi0 := cell_lt i0
  have i2 : w0.cell? ⟨w.heap.size + 1, 2, none⟩ = some (.int .i64 na) := by rw [hW0]; exact (by first | assumption | exact cell_new (by with_reducible first | rfl | (simp; done) | (simp; omega)) rfl | (repeat (first | assumption | exact cell_new (by with_reducible first | rfl | (simp; done) | (simp; omega)) rfl | refine cell_alloc ?_ _ | refine cell_drew ?_ | refine cell_drewN ?_ _ | refine cell_far ?_ (by simp) _ | (refine cell_far ?_ (by simp <;> omega) _))) | simp [go_sem, *])
  have i3 : w0.cell? ⟨w.heap.size + 1, 3, none⟩ = some (.int .i64 nb) := by rw [hW0]; exact (by first | assumption | exact cell_new (by with_reducible first | rfl | (simp; done) | (simp; omega)) rfl | (repeat (first | assumption | exact cell_new (by with_reducible first | rfl | (simp; done) | (simp; omega)) rfl | refine cell_alloc ?_ _ | refine cell_drew ?_ | refine cell_drewN ?_ _ | refine cell_far ?_ (by simp) _ | (refine cell_far ?_ (by simp <;> omega) _))) | simp [go_sem, *])
  have i4 : w0.cell? ⟨w.heap.size + 1, 4, none⟩ = some (.int .i64 ic) := by rw [hW0]; exact (by first | assumption | exact cell_new (by with_reducible first | rfl | (simp; done) | (simp; omega)) rfl | (repeat (first | assumption | exact cell_new (by with_reducible first | rfl | (simp; done) | (simp; omega)) rfl | refine cell_alloc ?_ _ | refine cell_drew ?_ | refine cell_drewN ?_ _ | refine cell_far ?_ (by simp) _ | (refine cell_far ?_ (by simp <;> omega) _))) | simp [go_sem, *])
  have hB : Below w.heap.size w w0 := by rw [hW0]; repeat (first | exact Below.refl _ _ | exact hB | refine Below.drew ?_ | refine below_drewN ?_ _ | refine bset ?_ (by simp <;> omega) _ | refine bal ?_ _)
  have hz : w.heap.size ≤ w0.heap.size := hB.size
  clear hW0
  have x0 := bkeep hB x0
  have y0 := bkeep hB y0
  have HS3 := Lib.hid (show ∀ W, Below w0.heap.size w0 W → W.cell? ⟨w.heap.size, 3, none⟩ = some (.func (.func 129) #[] #[]) ∧ W.cell? ⟨w.heap.size + 1, 4, none⟩ = some (.int .i64 ic) from fun W h => ⟨bkeep h f3, bkeep h i4⟩)
  have HS4 := Lib.hid (show ∀ W, Below w0.heap.size w0 W → W.cell? ⟨w.heap.size, 4, none⟩ = some (.func (.func 130) #[] #[]) ∧ W.cell? ⟨w.heap.size + 1, 4, none⟩ = some (.int .i64 ic) from fun W h => ⟨bkeep h f4, bkeep h i4⟩)
  have hBw := Below.refl w0.heap.size w0
  go_quiet (fail)
  have nx := fun W (h : Below w0.heap.size w0 W) => rowNeg_c _ A W (HX.out.keep lims_int (bthen hB h)) HLA.out
  have ax := fun W (h : Below w0.heap.size w0 W) => rowAddF_c _ _ A B k W (HX.out.keep lims_int (bthen hB h)) (HY.out.keep lims_int (bthen hB h)) HLA.out HEQ.out HBD.out.1 HBD.out.2 (by omega)
  have sx := fun W (h : Below w0.heap.size w0 W) => rowSubF_c _ _ A B k W (HX.out.keep lims_int (bthen hB h)) (HY.out.keep lims_int (bthen hB h)) HLA.out HEQ.out HBD.out.1 HBD.out.2 (by omega)
  have hop : op = 1 ∨ op = 2 ∨ op = 3 ∨ op = 4 ∨ op = 5 ∨ op = 6 ∨ op = 7 ∨ op = 8 := by omega
  clear o1 o2 x0 y0
  rcases hop with rfl | rfl | rfl | rfl | rfl | rfl | rfl | rfl
  · go_wp2
    go_ret2
    exact ansL_self (stepR_self fun j hj => by simp [opI]) (HX.out.keep lims_int (by repeat (first | exact Below.refl _ _ | exact hB | refine Below.drew ?_ | refine below_drewN ?_ _ | refine bset ?_ (by simp <;> omega) _ | refine bal ?_ _))) (by repeat (first | exact Below.refl _ _ | exact hB | refine Below.drew ?_ | refine below_drewN ?_ _ | refine bset ?_ (by simp <;> omega) _ | refine bal ?_ _))
  ·
    go_wp2_with fail
    refine (nx _ (by repeat (first | exact Below.refl _ _ | exact hBw | refine Below.drew ?_ | refine below_drewN ?_ _ | refine bset ?_ (by simp <;> omega) _ | refine bal ?_ _))).mono ?_
    rintro e w9 ⟨⟨u, rfl, hu⟩, hb9⟩
    have hB9 : Below w0.heap.size w0 w9 := bthen (by repeat (first | exact Below.refl _ _ | exact hBw | refine Below.drew ?_ | refine below_drewN ?_ _ | refine bset ?_ (by simp <;> omega) _ | refine bal ?_ _)) hb9
    have HU := Lib.hid (hu.row.rebase (show w.heap.size ≤ _ from (bthen hB (show Below w0.heap.size w0 _ by repeat (first | exact Below.refl _ _ | exact hBw | refine Below.drew ?_ | refine below_drewN ?_ _ | refine bset ?_ (by simp <;> omega) _ | refine bal ?_ _))).size))
    obtain ⟨ua, un, uc, rfl⟩ : ∃ a n c, u = Value.slice a n c := by obtain ⟨a, c, h⟩ := hu.ex; exact ⟨a, _, c, h⟩
    clear hu
    go_wp2
    go_ret2
    exact ansL_some (stepR_map (fun x => -x) fun j hj => by simp [opI]) HU.out (bthen hB hB9)
  ·
    go_wp2_with fail
    refine (ax _ (by repeat (first | exact Below.refl _ _ | exact hBw | refine Below.drew ?_ | refine below_drewN ?_ _ | refine bset ?_ (by simp <;> omega) _ | refine bal ?_ _))).mono ?_
    rintro e w9 ⟨⟨u, rfl, hu⟩, hb9⟩
    have hB9 : Below w0.heap.size w0 w9 := bthen (by repeat (first | exact Below.refl _ _ | exact hBw | refine Below.drew ?_ | refine below_drewN ?_ _ | refine bset ?_ (by simp <;> omega) _ | refine bal ?_ _)) hb9
    have HU := Lib.hid (hu.row.rebase (show w.heap.size ≤ _ from (bthen hB (show Below w0.heap.size w0 _ by repeat (first | exact Below.refl _ _ | exact hBw | refine Below.drew ?_ | refine below_drewN ?_ _ | refine bset ?_ (by simp <;> omega) _ | refine bal ?_ _))).size))
    obtain ⟨ua, un, uc, rfl⟩ : ∃ a n c, u = Value.slice a n c := by obtain ⟨a, c, h⟩ := hu.ex; exact ⟨a, _, c, h⟩
    clear hu
    go_wp2
    go_ret2
    exact ansL_some (stepR_zip (· + ·) HEQ.out fun j hj => by simp [opI]) HU.out (bthen hB hB9)
  ·
    go_wp2_with fail
    refine (sx _ (by repeat (first | exact Below.refl _ _ | exact hBw | refine Below.drew ?_ | refine below_drewN ?_ _ | refine bset ?_ (by simp <;> omega) _ | refine bal ?_ _))).mono ?_
    rintro e w9 ⟨⟨u, rfl, hu⟩, hb9⟩
    have hB9 : Below w0.heap.size w0 w9 := bthen (by repeat (first | exact Below.refl _ _ | exact hBw | refine Below.drew ?_ | refine below_drewN ?_ _ | refine bset ?_ (by simp <;> omega) _ | refine bal ?_ _)) hb9
    have HU := Lib.hid (hu.row.rebase (show w.heap.size ≤ _ from (bthen hB (show Below w0.heap.size w0 _ by repeat (first | exact Below.refl _ _ | exact hBw | refine Below.drew ?_ | refine below_drewN ?_ _ | refine bset ?_ (by simp <;> omega) _ | refine bal ?_ _))).size))
    obtain ⟨ua, un, uc, rfl⟩ : ∃ a n c, u = Value.slice a n c := by obtain ⟨a, c, h⟩ := hu.ex; exact ⟨a, _, c, h⟩
    clear hu
    go_wp2
    go_ret2
    exact ansL_some (stepR_zip (· - ·) HEQ.out fun j hj => by simp [opI]) HU.out (bthen hB hB9)
  · rw [constB_mul (.inl rfl)] at HC
    have hc := of_decide_eq_true HC.out
    have oc := fun W => of_c ic W (by omega) (by omega)
    have mc := fun vz W (q : Below w0.heap.size w0 W) (hz : IsInt W vz ic) => rowScale_c _ vz A ic k 10 W (HX.out.keep lims_int (bthen hB q)) hz HLA.out HBD.out.1 (const_bd hc.2.1 hc.2.2 (Nat.le_refl _)) (by omega) (by omega)
    clear nx ax sx
    go_wp2
    go_region_held3 (fun w' => w'.cell? ⟨w.heap.size, 3, none⟩ = some (.func (.func 129) #[] #[]) ∧ w'.cell? ⟨w.heap.size + 1, 4, none⟩ = some (.int .i64 ic))
      (first | (refine HS3.out _ ?_; (repeat (first | exact Below.refl _ _ | exact hBw | refine Below.drew ?_ | refine below_drewN ?_ _ | refine bset ?_ (by simp <;> omega) _ | refine bal ?_ _)); done) | fail)
      (first
        | (go_at_call 49; refine (oc _).mono ?_; rintro e w5 ⟨⟨v5, rfl, hi5⟩, hb5⟩; (have hBd : Below w0.heap.size w0 w5 := bthen (by repeat (first | exact Below.refl _ _ | exact hBw | refine Below.drew ?_ | refine below_drewN ?_ _ | refine bset ?_ (by simp <;> omega) _ | refine bal ?_ _)) hb5; clear hBw; have hBw := hBd; clear hBd); have HI5 := Lib.hid hi5; obtain ⟨n5, a5, c5, l5, rfl, -⟩ := hi5; unfold iv at *)
        | (go_at_call 129; refine (mc _ _ ?_ ?_).mono ?_; (repeat (first | exact Below.refl _ _ | exact hBw | refine Below.drew ?_ | refine below_drewN ?_ _ | refine bset ?_ (by simp <;> omega) _ | refine bal ?_ _)); (refine HI5.out.keep ?_; have hBz := Below.refl w5.heap.size w5; (repeat (first | exact Below.refl _ _ | exact hBz | refine Below.drew ?_ | refine below_drewN ?_ _ | refine bset ?_ (by simp <;> omega) _ | refine bal ?_ _))); rintro e w9 ⟨⟨u, rfl, hu⟩, hb9⟩; have hB9 : Below w0.heap.size w0 w9 := bthen (by repeat (first | exact Below.refl _ _ | exact hBw | refine Below.drew ?_ | refine below_drewN ?_ _ | refine bset ?_ (by simp <;> omega) _ | refine bal ?_ _)) hb9; have HSZ := Lib.hid (show w.heap.size ≤ w5.heap.size from (bthen hB (show Below w0.heap.size w0 w5 by repeat (first | exact Below.refl _ _ | exact hBw | refine Below.drew ?_ | refine below_drewN ?_ _ | refine bset ?_ (by simp <;> omega) _ | refine bal ?_ _))).size); (clear hBw; have hBw := hB9); have HU := Lib.hid hu)
        | fail)
    all_goals
      obtain ⟨ua, un, uc, rfl⟩ : ∃ a n c, u = Value.slice a n c := by obtain ⟨a, c, h⟩ := hu.ex; exact ⟨a, _, c, h⟩
      go_wp2
      go_ret2
      exact ansL_some (stepR_map (fun x => x * ic) fun j hj => by simp [opI]) (HU.out.row.rebase HSZ.out) (bthen hB hB9)
  · rw [constB_mul (.inr rfl)] at HC
    have hc := of_decide_eq_true HC.out
    have oc := fun W => of_c ic W (by omega) (by omega)
    have mc := fun vz W (q : Below w0.heap.size w0 W) (hz : IsInt W vz ic) => rowOverF_c _ vz A ic (k + 65) W (HX.out.keep lims_int (bthen hB q)) hz HLA.out (fun j => (HBD.out.1 j).mono (by omega)) (const_bd hc.2.1 hc.2.2 (by omega)) (by omega) hc.1
    clear nx ax sx
    go_wp2
    go_region_held3 (fun w' => w'.cell? ⟨w.heap.size, 4, none⟩ = some (.func (.func 130) #[] #[]) ∧ w'.cell? ⟨w.heap.size + 1, 4, none⟩ = some (.int .i64 ic))
      (first | (refine HS4.out _ ?_; (repeat (first | exact Below.refl _ _ | exact hBw | refine Below.drew ?_ | refine below_drewN ?_ _ | refine bset ?_ (by simp <;> omega) _ | refine bal ?_ _)); done) | fail)
      (first
        | (go_at_call 49; refine (oc _).mono ?_; rintro e w5 ⟨⟨v5, rfl, hi5⟩, hb5⟩; (have hBd : Below w0.heap.size w0 w5 := bthen (by repeat (first | exact Below.refl _ _ | exact hBw | refine Below.drew ?_ | refine below_drewN ?_ _ | refine bset ?_ (by simp <;> omega) _ | refine bal ?_ _)) hb5; clear hBw; have hBw := hBd; clear hBd); have HI5 := Lib.hid hi5; obtain ⟨n5, a5, c5, l5, rfl, -⟩ := hi5; unfold iv at *)
        | (go_at_call 130; refine (mc _ _ ?_ ?_).mono ?_; (repeat (first | exact Below.refl _ _ | exact hBw | refine Below.drew ?_ | refine below_drewN ?_ _ | refine bset ?_ (by simp <;> omega) _ | refine bal ?_ _)); (refine HI5.out.keep ?_; have hBz := Below.refl w5.heap.size w5; (repeat (first | exact Below.refl _ _ | exact hBz | refine Below.drew ?_ | refine below_drewN ?_ _ | refine bset ?_ (by simp <;> omega) _ | refine bal ?_ _))); rintro e w9 ⟨⟨a9, n9, c9, b9, rfl, hu⟩, hb9⟩; have hB9 : Below w0.heap.size w0 w9 := bthen (by repeat (first | exact Below.refl _ _ | exact hBw | refine Below.drew ?_ | refine below_drewN ?_ _ | refine bset ?_ (by simp <;> omega) _ | refine bal ?_ _)) hb9; have HSZ := Lib.hid (show w.heap.size ≤ w5.heap.size from (bthen hB (show Below w0.heap.size w0 w5 by repeat (first | exact Below.refl _ _ | exact hBw | refine Below.drew ?_ | refine below_drewN ?_ _ | refine bset ?_ (by simp <;> omega) _ | refine bal ?_ _))).size); (clear hBw; have hBw := hB9); have HU := Lib.hid hu)
        | fail)
    all_goals
      go_wp2
      go_ret2
      refine ansL_b (x := A.map fun x => x / ic) ⟨fun h => ⟨stepR_map (fun x => x / ic) fun j hj => ?_, (HU.out.out.1 h).2.rebase HSZ.out⟩, fun h => ?_⟩ (bthen hB hB9)
      · rw [opI_div, if_pos ((HU.out.out.1 h).1 j hj)]
      · obtain ⟨j, hj, hne⟩ := HU.out.out.2 h
        exact stepR_fail hj (by rw [opI_div, if_neg hne])
  · rw [constB_shift (.inl rfl)] at HC
    have hc := of_decide_eq_true HC.out
    obtain ⟨m', rfl⟩ : ∃ m : Nat, ic = m := ⟨ic.toNat, by omega⟩
    have oc := fun W => power_c m' W (by omega)
    have mc := fun vz W (q : Below w0.heap.size w0 W) (hz : IsInt W vz (2 ^ m')) => rowScale_c _ vz A (2 ^ m') k 65 W (HX.out.keep lims_int (bthen hB q)) hz HLA.out HBD.out.1 (pow2_bd (by omega)) (by omega) (by omega)
    clear nx ax sx
    go_wp2
    go_region_held3 (fun w' => w'.cell? ⟨w.heap.size, 3, none⟩ = some (.func (.func 129) #[] #[]) ∧ w'.cell? ⟨w.heap.size + 1, 4, none⟩ = some (.int .i64 (m' : Int)))
      (first | (refine HS3.out _ ?_; (repeat (first | exact Below.refl _ _ | exact hBw | refine Below.drew ?_ | refine below_drewN ?_ _ | refine bset ?_ (by simp <;> omega) _ | refine bal ?_ _)); done) | fail)
      (first
        | (go_at_call 138; refine (oc _).mono ?_; rintro e w5 ⟨⟨v5, rfl, hi5⟩, hb5⟩; (have hBd : Below w0.heap.size w0 w5 := bthen (by repeat (first | exact Below.refl _ _ | exact hBw | refine Below.drew ?_ | refine below_drewN ?_ _ | refine bset ?_ (by simp <;> omega) _ | refine bal ?_ _)) hb5; clear hBw; have hBw := hBd; clear hBd); have HI5 := Lib.hid hi5; obtain ⟨n5, a5, c5, l5, rfl, -⟩ := hi5; unfold iv at *)
        | (go_at_call 129; refine (mc _ _ ?_ ?_).mono ?_; (repeat (first | exact Below.refl _ _ | exact hBw | refine Below.drew ?_ | refine below_drewN ?_ _ | refine bset ?_ (by simp <;> omega) _ | refine bal ?_ _)); (refine HI5.out.keep ?_; have hBz := Below.refl w5.heap.size w5; (repeat (first | exact Below.refl _ _ | exact hBz | refine Below.drew ?_ | refine below_drewN ?_ _ | refine bset ?_ (by simp <;> omega) _ | refine bal ?_ _))); rintro e w9 ⟨⟨u, rfl, hu⟩, hb9⟩; have hB9 : Below w0.heap.size w0 w9 := bthen (by repeat (first | exact Below.refl _ _ | exact hBw | refine Below.drew ?_ | refine below_drewN ?_ _ | refine bset ?_ (by simp <;> omega) _ | refine bal ?_ _)) hb9; have HSZ := Lib.hid (show w.heap.size ≤ w5.heap.size from (bthen hB (show Below w0.heap.size w0 w5 by repeat (first | exact Below.refl _ _ | exact hBw | refine Below.drew ?_ | refine below_drewN ?_ _ | refine bset ?_ (by simp <;> omega) _ | refine bal ?_ _))).size); (clear hBw; have hBw := hB9); have HU := Lib.hid hu)
        | fail)
    all_goals
      obtain ⟨ua, un, uc, rfl⟩ : ∃ a n c, u = Value.slice a n c := by obtain ⟨a, c, h⟩ := hu.ex; exact ⟨a, _, c, h⟩
      go_wp2
      go_ret2
      exact ansL_some (stepR_map (fun x => x * 2 ^ m') fun j hj => by simp [opI]) (HU.out.row.rebase HSZ.out) (bthen hB hB9)
  · rw [constB_shift (.inr rfl)] at HC
    have hc := of_decide_eq_true HC.out
    obtain ⟨m', rfl⟩ : ∃ m : Nat, ic = m := ⟨ic.toNat, by omega⟩
    have oc := fun W => power_c m' W (by omega)
    have mc := fun vz W (q : Below w0.heap.size w0 W) (hz : IsInt W vz (2 ^ m')) => rowOverF_c _ vz A (2 ^ m') (k + 65) W (HX.out.keep lims_int (bthen hB q)) hz HLA.out (fun j => (HBD.out.1 j).mono (by omega)) (pow2_bd (by omega)) (by omega) (p2_ne m')
    clear nx ax sx
    go_wp2
    go_region_held3 (fun w' => w'.cell? ⟨w.heap.size, 4, none⟩ = some (.func (.func 130) #[] #[]) ∧ w'.cell? ⟨w.heap.size + 1, 4, none⟩ = some (.int .i64 (m' : Int)))
      (first | (refine HS4.out _ ?_; (repeat (first | exact Below.refl _ _ | exact hBw | refine Below.drew ?_ | refine below_drewN ?_ _ | refine bset ?_ (by simp <;> omega) _ | refine bal ?_ _)); done) | fail)
      (first
        | (go_at_call 138; refine (oc _).mono ?_; rintro e w5 ⟨⟨v5, rfl, hi5⟩, hb5⟩; (have hBd : Below w0.heap.size w0 w5 := bthen (by repeat (first | exact Below.refl _ _ | exact hBw | refine Below.drew ?_ | refine below_drewN ?_ _ | refine bset ?_ (by simp <;> omega) _ | refine bal ?_ _)) hb5; clear hBw; have hBw := hBd; clear hBd); have HI5 := Lib.hid hi5; obtain ⟨n5, a5, c5, l5, rfl, -⟩ := hi5; unfold iv at *)
        | (go_at_call 130; refine (mc _ _ ?_ ?_).mono ?_; (repeat (first | exact Below.refl _ _ | exact hBw | refine Below.drew ?_ | refine below_drewN ?_ _ | refine bset ?_ (by simp <;> omega) _ | refine bal ?_ _)); (refine HI5.out.keep ?_; have hBz := Below.refl w5.heap.size w5; (repeat (first | exact Below.refl _ _ | exact hBz | refine Below.drew ?_ | refine below_drewN ?_ _ | refine bset ?_ (by simp <;> omega) _ | refine bal ?_ _))); rintro e w9 ⟨⟨a9, n9, c9, b9, rfl, hu⟩, hb9⟩; have hB9 : Below w0.heap.size w0 w9 := bthen (by repeat (first | exact Below.refl _ _ | exact hBw | refine Below.drew ?_ | refine below_drewN ?_ _ | refine bset ?_ (by simp <;> omega) _ | refine bal ?_ _)) hb9; have HSZ := Lib.hid (show w.heap.size ≤ w5.heap.size from (bthen hB (show Below w0.heap.size w0 w5 by repeat (first | exact Below.refl _ _ | exact hBw | refine Below.drew ?_ | refine below_drewN ?_ _ | refine bset ?_ (by simp <;> omega) _ | refine bal ?_ _))).size); (clear hBw; have hBw := hB9); have HU := Lib.hid hu)
        | fail)
    all_goals
      go_wp2
      go_ret2
      refine ansL_b (x := A.map fun x => x / 2 ^ m') ⟨fun h => ⟨stepR_map (fun x => x / 2 ^ m') fun j hj => ?_, (HU.out.out.1 h).2.rebase HSZ.out⟩, fun h => ?_⟩ (bthen hB hB9)
      · rw [opI_shr, if_pos ((HU.out.out.1 h).1 j hj)]
      · obtain ⟨j, hj, hne⟩ := HU.out.out.2 h
        exact stepR_fail hj (by rw [opI_shr, if_neg hne])
end Go.Proofs.YtdllbdfchloijaaGreatDoor

/- exact: run on rows. -/
namespace Go.Proofs.YtdllbdfchloijaaGreatDoor
open Num
open Go.ChangeShapes Go.WideShapes Go.ChangeAt Go.RowKit
set_option linter.unusedVariables false
set_option linter.unusedSimpArgs false
attribute [local go_sem ↓] Go.wp_at_zero Go.wp_at_succ
/-- a function value that is told of each instruction's row, and goes on -/
def FnTR (F : Nat) (caps : Array Value) : Prop :=
  ∀ W v r (k : Int), PRow 0 W v r → Calls Tryz.prog F (#[.int .i64 k, v] ++ caps) W fun e w' => e = .returned (.bool true) ∧ Below W.heap.size W w'
theorem toldR_c : FnTR 82 #[] := fun W v r k hv => by
  obtain ⟨va, vc, rfl, -⟩ := hv
  have hB := Below.refl W.heap.size W
  show Calls Tryz.prog 82 #[.int .i64 k, .slice va r.length vc] W _
  go_enter Tryz.func82, Tryz.ntmps82
  go_wp2
  go_ret
  exact ⟨rfl, by repeat (first | exact Below.refl _ _ | exact hB | refine Below.drew ?_ | refine below_drewN ?_ _ | refine bset ?_ (by simp <;> omega) _ | refine bal ?_ _)⟩
/-- what run answers, on rows -/
def RunRPost (code : List Ins) (g : Grid) (rb : Nat) (w : World) (e : Ending) (w' : World) : Prop :=
  ((∃ (m : Nat) (h : Grid), m < code.length ∧ after code g m = some h ∧ after code g (m + 1) = none ∧ e = .returned (.int .i64 m)) ∨
   (∃ h, after code g code.length = some h ∧ e = .returned (.int .i64 (-1)) ∧ RegsP 0 w' rb h)) ∧ Out (fun k => k = rb) w w'
set_option maxRecDepth 100000 in
set_option maxHeartbeats 16000000 in
theorem runR_c (ins regs : Int) (ca oa : Option Addr) (cc ol oc : Nat) (code : List Ins) (g : Grid) (m K rb F : Nat) (caps : Array Value) (w : World) (hc : InsV w ca cc code) (hcs : ∀ n, n < code.length → InsOk (code.getD n default) g.length) (hcl : code.length ≤ 16384) (hCs : Cs code) (hg128 : g.length ≤ 128)
    (hI : RegsP 0 w rb g) (hR : Rect m g) (hm : m ≤ 1099511627775) (hb : BdG K g) (hK : K ≤ 2147483648) (hft : FnTR F caps) (eF : Enters Tryz.prog F) (hne : ∀ b off, ca = some ⟨b, off, none⟩ → 0 < code.length → b ≠ rb) :
    Calls Tryz.prog 80 #[rowsV, .agg #[.int .i64 ins, .int .i64 regs, .slice ca code.length cc, .slice oa ol oc], .slice (some ⟨rb, 0, none⟩) g.length g.length, .func (.func F) #[] caps] w (RunRPost code g rb w) := by
  have HC := Lib.hid hc
  have HCS := Lib.hid hcs
  have HCs := Lib.hid hCs
  have HBD := Lib.hid (And.intro hb (And.intro hR (fun n (hn : n < code.length) => (show (code.getD n default).a.toNat < g.length by have := (hcs n hn).a0; have := (hcs n hn).a1; omega))))
  have HFT := Lib.hid hft
  have HNE := Lib.hid hne
  have HI := Lib.hid hI
  have zrb := hI.free.1
  clear hc hcs hCs hb hft hI hR hne
  unfold Enters at eF
  have hB := Below.refl w.heap.size w
  unfold rowsV
  obtain ⟨R, hR⟩ : ∃ R, g.length = R := ⟨_, rfl⟩
  rw [hR] at HCS hg128 ⊢
  have HR := Lib.hid hR
  clear hR
  go_enter Tryz.func80, Tryz.ntmps80
  go_wp2
  go_step3
  go_wp2
  go_step3
  go_wp2
  refine wp_name fun w0 hW0 => ?_
  have f0 : w0.cell? ⟨w.heap.size, 0, none⟩ = some (.func (.func 124) #[] #[]) := by rw [hW0]; exact (by first | assumption | exact cell_new (by with_reducible first | rfl | (simp; done) | (simp; omega)) rfl | (repeat (first | assumption | exact cell_new (by with_reducible first | rfl | (simp; done) | (simp; omega)) rfl | refine cell_alloc ?_ _ | refine cell_drew ?_ | refine cell_drewN ?_ _ | refine cell_far ?_ (by simp) _ | (refine cell_far ?_ (by simp <;> omega) _))) | simp [go_sem, *])
  have zf0 := cell_lt f0
  have f1 : w0.cell? ⟨w.heap.size, 1, none⟩ = some (.func (.func 125) #[] #[]) := by rw [hW0]; exact (by first | assumption | exact cell_new (by with_reducible first | rfl | (simp; done) | (simp; omega)) rfl | (repeat (first | assumption | exact cell_new (by with_reducible first | rfl | (simp; done) | (simp; omega)) rfl | refine cell_alloc ?_ _ | refine cell_drew ?_ | refine cell_drewN ?_ _ | refine cell_far ?_ (by simp) _ | (refine cell_far ?_ (by simp <;> omega) _))) | simp [go_sem, *])
  have f2 : w0.cell? ⟨w.heap.size, 2, none⟩ = some (.func (.func 127) #[] #[]) := by rw [hW0]; exact (by first | assumption | exact cell_new (by with_reducible first | rfl | (simp; done) | (simp; omega)) rfl | (repeat (first | assumption | exact cell_new (by with_reducible first | rfl | (simp; done) | (simp; omega)) rfl | refine cell_alloc ?_ _ | refine cell_drew ?_ | refine cell_drewN ?_ _ | refine cell_far ?_ (by simp) _ | (refine cell_far ?_ (by simp <;> omega) _))) | simp [go_sem, *])
  have f3 : w0.cell? ⟨w.heap.size, 3, none⟩ = some (.func (.func 129) #[] #[]) := by rw [hW0]; exact (by first | assumption | exact cell_new (by with_reducible first | rfl | (simp; done) | (simp; omega)) rfl | (repeat (first | assumption | exact cell_new (by with_reducible first | rfl | (simp; done) | (simp; omega)) rfl | refine cell_alloc ?_ _ | refine cell_drew ?_ | refine cell_drewN ?_ _ | refine cell_far ?_ (by simp) _ | (refine cell_far ?_ (by simp <;> omega) _))) | simp [go_sem, *])
  have f4 : w0.cell? ⟨w.heap.size, 4, none⟩ = some (.func (.func 130) #[] #[]) := by rw [hW0]; exact (by first | assumption | exact cell_new (by with_reducible first | rfl | (simp; done) | (simp; omega)) rfl | (repeat (first | assumption | exact cell_new (by with_reducible first | rfl | (simp; done) | (simp; omega)) rfl | refine cell_alloc ?_ _ | refine cell_drew ?_ | refine cell_drewN ?_ _ | refine cell_far ?_ (by simp) _ | (refine cell_far ?_ (by simp <;> omega) _))) | simp [go_sem, *])
  have p2 : w0.cell? ⟨w.heap.size + 1, 2, none⟩ = some (.slice ca code.length cc) := by rw [hW0]; exact (by first | assumption | exact cell_new (by with_reducible first | rfl | (simp; done) | (simp; omega)) rfl | (repeat (first | assumption | exact cell_new (by with_reducible first | rfl | (simp; done) | (simp; omega)) rfl | refine cell_alloc ?_ _ | refine cell_drew ?_ | refine cell_drewN ?_ _ | refine cell_far ?_ (by simp) _ | (refine cell_far ?_ (by simp <;> omega) _))) | simp [go_sem, *])
  have zp2 := cell_lt p2
  have hB : Below w.heap.size w w0 := by rw [hW0]; repeat (first | exact Below.refl _ _ | exact hB | refine Below.drew ?_ | refine below_drewN ?_ _ | refine bset ?_ (by simp <;> omega) _ | refine bal ?_ _)
  have hz : w.heap.size ≤ w0.heap.size := hB.size
  clear hW0
  have HP := Lib.hid (show ∀ W, Out (fun k => k = rb) w0 W → W.cell? ⟨w.heap.size, 0, none⟩ = some (.func (.func 124) #[] #[]) ∧ W.cell? ⟨w.heap.size, 1, none⟩ = some (.func (.func 125) #[] #[]) ∧ W.cell? ⟨w.heap.size, 2, none⟩ = some (.func (.func 127) #[] #[]) ∧ W.cell? ⟨w.heap.size, 3, none⟩ = some (.func (.func 129) #[] #[]) ∧ W.cell? ⟨w.heap.size, 4, none⟩ = some (.func (.func 130) #[] #[]) ∧ W.cell? ⟨w.heap.size + 1, 2, none⟩ = some (.slice ca code.length cc) from fun W h =>
    have hne : ¬ w.heap.size = rb := by omega
    have hne1 : ¬ w.heap.size + 1 = rb := by omega
    ⟨okeep h f0 hne, okeep h f1 hne, okeep h f2 hne, okeep h f3 hne, okeep h f4 hne, okeep h p2 hne1⟩)
  have hO0 := Out.of_below (fun k => k = rb) hB
  clear f0 f1 f2 f3 f4 p2
  go_loopw [16] (fun x wr => ∃ n : Nat, n ≤ code.length ∧ x = .int .i64 n ∧ Out (fun k => k = rb) w0 wr ∧ Hid (∃ h, after code g n = some h ∧ RegsP 0 wr rb h)) (fun x _ => code.length - (intOf x).toNat)
  case atStart => exact ⟨0, Nat.zero_le _, rfl, Out.refl _ _, Lib.hid ⟨g, rfl, HI.out.keep hB⟩⟩
  case round =>
    obtain ⟨n, hn, rfl, hOr, hrel⟩ := hrel
    obtain ⟨h, hs, hI⟩ := hrel.out
    have HS := Lib.hid (And.intro hs hI)
    have hOw : Out (fun k => k = rb) w wr := hO0.trans hOr
    have hsl := (after_len hs).trans HR.out
    have HRC := Lib.hid (after_rect HBD.out.2.1 rfl HBD.out.2.2 hn hs)
    have HBN := Lib.hid (after_bd HBD.out.1 HCs.out hn hs)
    have hz0 : w0.heap.size ≤ wr.heap.size := hOr.size
    obtain ⟨f0, f1, f2, f3, f4, p2⟩ := HP.out wr hOr
    have HSL := Lib.hid hsl
    clear hs hI hrel hsl
    by_cases hlt : n < code.length
    · have hltI : (n : Int) < (code.length : Int) := by omega
      rcases HC.out with h0 | ⟨cb, co, rfl, hcap, hcell⟩
      · rw [h0] at hlt; simp at hlt
      have hcb : ¬ cb = rb := HNE.out cb co rfl (by omega)
      obtain ⟨q0, q1, q2, q3, q4⟩ := hcell n hlt
      replace q0 := okeep hOw q0 hcb
      replace q1 := okeep hOw q1 hcb
      replace q2 := okeep hOw q2 hcb
      replace q3 := okeep hOw q3 hcb
      replace q4 := okeep hOw q4 hcb
      have zq := cell_lt q0
      have zf := cell_lt f0
      have zp := cell_lt p2
      have hio := HCS.out n hlt
      obtain ⟨uz, huz, -⟩ := HS.out.2.cell (code.getD n default).a.toNat (by have := hio.a0; have := hio.a1; rw [HSL.out]; omega)
      have dc := fun W (k : Below wr.heap.size wr W) => doR_c (code.getD n default) (K + 65 * n) rb m h uz W (HS.out.2.keep k) (bkeep k huz) (by rw [HSL.out]; exact hio) HRC.out hm HBN.out (by omega) (by rw [HSL.out]; exact hg128)
      rw [HSL.out] at dc
      have HNX := Lib.hid (fun (h : Grid) (e : after code g n = some h) => (show after code g (n + 1) = (stepR (code.getD n default) (h.getD (code.getD n default).a.toNat []) (h.getD (code.getD n default).b.toNat [])).map fun r => h.set (code.getD n default).to.toNat r by rw [after, e]; rfl))
      have t0 := hio.t0
      have t1 := hio.t1
      obtain ⟨Z, hZ⟩ : ∃ Z, stepR (code.getD n default) (h.getD (code.getD n default).a.toNat []) (h.getD (code.getD n default).b.toNat []) = Z := ⟨_, rfl⟩
      rw [hZ] at dc
      have HZ := Lib.hid hZ
      obtain ⟨i, hi⟩ : ∃ i, i = code.getD n default := ⟨_, rfl⟩
      rw [← hi] at q0 q1 q2 q3 q4 dc t0 t1
      have HIN := Lib.hid hi
      clear hi hcell hio hZ huz
      obtain ⟨op, it, ia, ib, ic⟩ := i
      dsimp only at q0 q1 q2 q3 q4 t0 t1
      obtain ⟨nt, rfl⟩ : ∃ x : Nat, it = x := ⟨it.toNat, by omega⟩
      have t1' : nt < R := by omega
      unfold Ins.v rowsV at dc
      dsimp only at dc
      unfold AnsL at dc
      have hBw := Below.refl wr.heap.size wr
      cases Z with
      | none =>
        dsimp only at dc
        go_wp2_with fail
        refine (dc _ (by repeat (first | exact Below.refl _ _ | exact hBw | refine Below.drew ?_ | refine below_drewN ?_ _ | refine bset ?_ (by simp <;> omega) _ | refine bal ?_ _))).mono ?_
        rintro e w5 ⟨⟨a5, n5, c5, rfl⟩, hb5⟩
        have hB5 : Below wr.heap.size wr w5 := bthen (by repeat (first | exact Below.refl _ _ | exact hBw | refine Below.drew ?_ | refine below_drewN ?_ _ | refine bset ?_ (by simp <;> omega) _ | refine bal ?_ _)) hb5
        clear dc
        go_wp2
        go_ret
        refine ⟨.inl ⟨n, h, hlt, HS.out.1, ?_, rfl⟩, hOw.below (by repeat (first | exact Below.refl _ _ | exact hB5 | refine Below.drew ?_ | refine below_drewN ?_ _ | refine bset ?_ (by simp <;> omega) _ | refine bal ?_ _))⟩
        rw [HNX.out h HS.out.1, HZ.out]; rfl
      | some z =>
        dsimp only at dc
        go_wp2_with fail
        refine (dc _ (by repeat (first | exact Below.refl _ _ | exact hBw | refine Below.drew ?_ | refine below_drewN ?_ _ | refine bset ?_ (by simp <;> omega) _ | refine bal ?_ _))).mono ?_
        rintro e w5 ⟨⟨v5, rfl, hi5, -⟩, hb5⟩
        have i1 : w5.cell? ⟨wr.heap.size, 1, none⟩ = some (.int .i64 nt) := bkeep hb5 (by first | exact cell_new rfl rfl | exact cell_drew (cell_new rfl rfl))
        have hB5 : Below wr.heap.size wr w5 := bthen (by repeat (first | exact Below.refl _ _ | exact hBw | refine Below.drew ?_ | refine below_drewN ?_ _ | refine bset ?_ (by simp <;> omega) _ | refine bal ?_ _)) hb5
        have HV5 := Lib.hid hi5
        obtain ⟨a5, c5, rfl, -⟩ := hi5
        clear dc
        have hR5 := HS.out.2.keep hB5
        have hnt : nt < h.length := by rw [HSL.out]; exact t1'
        obtain ⟨u0, o0, -⟩ := hR5.cell nt hnt
        have of0 := hR5.free.2 nt
        have zo := cell_lt o0
        have zi := cell_lt i1
        have HR5 := Lib.hid hR5
        clear hR5
        have hN : Hid (∀ W, W = w5.setCell ⟨rb, nt, none⟩ (.slice a5 z.length c5) → RegsP 0 W rb (h.set nt z) ∧ PRow 0 W (.slice a5 z.length c5) z ∧ Out (fun k => k = rb) w0 W) := Lib.hid fun W hW => by
          subst hW
          have hk : Kp (· ≠ 43) w5 (w5.setCell ⟨rb, nt, none⟩ (.slice a5 z.length c5)) := (Kp.refl _ w5).set (fun t ht => by rw [HR5.out.ty] at ht; cases ht; exact fun k => k rfl) _
          exact ⟨HR5.out.step HV5.out hnt, HV5.out.kp lims_int hk (by decide) (by decide), (hOr.below hB5).set (fun _ => rfl) _⟩
        have HST := Lib.hid (show after code g (n + 1) = some (h.set nt z) by rw [HNX.out h HS.out.1, HZ.out, ← HIN.out, Option.map_some]; dsimp only; rw [Int.toNat_natCast])
        go_upto_region 8 with (fail)
        refine wp_name fun w6 hW6 => ?_
        have HN6 := Lib.hid (hN.out w6 hW6)
        have hB6 := Below.refl w6.heap.size w6
        clear hW6 hN o0 of0 i1 HR5 HV5 q0 q1 q2 q3 q4 f0 f1 f2 f3 f4 p2
        go_wp2_with (go_at_fn F; refine (HFT.out _ _ z _ (HN6.out.2.1.keep lims_int ?_)).mono ?_; (repeat (first | exact Below.refl _ _ | exact hB6 | refine Below.drew ?_ | refine below_drewN ?_ _ | refine bset ?_ (by simp <;> omega) _ | refine bal ?_ _)); rintro e w7 ⟨rfl, hb7⟩)
        have hB7 : Below w6.heap.size w6 w7 := bthen (by repeat (first | exact Below.refl _ _ | exact hB6 | refine Below.drew ?_ | refine below_drewN ?_ _ | refine bset ?_ (by simp <;> omega) _ | refine bal ?_ _)) hb7
        have HNEXT := Lib.hid (show ∃ h', after code g (n + 1) = some h' ∧ RegsP 0 w7 rb h' from ⟨_, HST.out, HN6.out.1.keep hB7⟩)
        have hO7 : Out (fun k => k = rb) w0 w7 := HN6.out.2.2.below hB7
        clear HN6
        go_wp2
        exact ⟨⟨n + 1, by omega, by go_num, hO7, HNEXT⟩, by simp [intOf]; omega⟩
    · obtain rfl : n = code.length := by omega
      go_wp2
      go_ret
      exact ⟨.inr ⟨h, HS.out.1, rfl, HS.out.2⟩, hOw⟩
end Go.Proofs.YtdllbdfchloijaaGreatDoor

/- The reference's rows: Over; what an instruction makes of rows (do). -/
namespace Go.Proofs.YtdllbdfchloijaaGreatDoor
open Num
open Go.ChangeShapes Go.WideShapes Go.ChangeAt Go.RowKit
set_option linter.unusedVariables false
set_option linter.unusedSimpArgs false
attribute [local go_sem ↓] Go.wp_at_zero Go.wp_at_succ
end Go.Proofs.YtdllbdfchloijaaGreatDoor

/- The reference's rows: constant; what an instruction makes of rows (do). -/
namespace Go.Proofs.YtdllbdfchloijaaGreatDoor
open Num
open Go.ChangeShapes Go.WideShapes Go.ChangeAt Go.RowKit
set_option linter.unusedVariables false
set_option linter.unusedSimpArgs false
attribute [local go_sem ↓] Go.wp_at_zero Go.wp_at_succ
/-- the reference's registers in a block that may be written -/
structure RegsQ (w : World) (rb : Nat) (g : Grid) : Prop where
  free : Free w rb
  ty : typOf w rb = some 91
  cell : ∀ k, k < g.length → ∃ u, w.cell? ⟨rb, k, none⟩ = some u ∧ RRow 0 w u (g.getD k [])
theorem RegsQ.keep {rb : Nat} {w w' : World} {g : Grid} (h : RegsQ w rb g) (k : Below w.heap.size w w') : RegsQ w' rb g :=
  ⟨h.free.keep k, typ_keep h.ty k, fun j hj => by obtain ⟨u, hu, hr⟩ := h.cell j hj; exact ⟨u, bkeep k hu, hr.keep lims_ref k⟩⟩
theorem RegsQ.step {rb nt : Nat} {w : World} {g : Grid} {v : Value} {r : List Int} (h : RegsQ w rb g) (hv : RRow 0 w v r) (ht : nt < g.length) : RegsQ (w.setCell ⟨rb, nt, none⟩ v) rb (g.set nt r) := by
  have hk : Kp (· ≠ 91) w (w.setCell ⟨rb, nt, none⟩ v) := (Kp.refl _ w).set (fun t ht => by rw [h.ty] at ht; cases ht; exact fun k => k rfl) _
  refine ⟨h.free.set _ _, by rw [typ_set]; exact h.ty, fun k hk' => ?_⟩
  rw [List.length_set] at hk'
  by_cases e : nt = k
  · subst e
    obtain ⟨u, hu, _⟩ := h.cell nt hk'
    refine ⟨v, cell_here hu _, ?_⟩
    have : (g.set nt r).getD nt [] = r := by simp [hk']
    rw [this]
    exact hv.kp lims_ref hk (by decide) (by decide)
  · obtain ⟨u, hu, hr⟩ := h.cell k hk'
    refine ⟨u, cell_far hu (fun e2 => e (by cases e2; rfl)) _, ?_⟩
    have : (g.set nt r).getD k [] = g.getD k [] := by simp [List.getElem?_set_ne e]
    rw [this]
    exact hr.kp lims_ref hk (by decide) (by decide)
end Go.Proofs.YtdllbdfchloijaaGreatDoor

