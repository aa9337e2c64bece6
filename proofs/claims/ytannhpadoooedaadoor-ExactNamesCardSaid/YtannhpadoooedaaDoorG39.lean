/- Texts of this seat, laid together: VwR, VwS. Each opens with its own remark, which says what it proves, and under which conditions. -/
import Derived.Test.YtannhpadoooedaaDoorG38
import Derived.Test.YtannhpadoooedaaDoorG36
import Derived.Deep.Cut
import Derived.Deep.DeepCutAuto
/- vm's laws: a program and rows that came in; what Run's and New's results say. -/
namespace Go.Proofs.YtannhpadoooedaaDoor
open Num
open Go.ChangeShapes Go.WideShapes Go.ChangeAt Go.RowKit
set_option linter.unusedVariables false
set_option linter.unusedSimpArgs false
/-- a program that came in -/
structure ProgI (w : World) (ca oa : Option Addr) (cc oc : Nat) (code : List Ins) (outs : List Int) : Prop where
  c : InsV w ca cc code
  o : IntsV w oa oc outs
  cn : ca = none → code = []
  on : oa = none → outs = []
  cl : code.length ≤ 1048576
  ol : outs.length ≤ 1048576
/-- a grid that came in, of a size that the form lets by -/
structure GridS (w : World) (v : Value) (g : Grid) : Prop where
  i : GridI w v g
  s : sumG g ≤ 1048576
  l : g.length ≤ 1048576
theorem GridI.bd {w : World} {v : Value} {g : Grid} (h : GridI w v g) : BdG 64 g := by
  obtain ⟨a, c, _, h2⟩ := h
  refine bdG_i64 fun k hk j hj => ?_
  obtain ⟨b, off, u, _, _, hr⟩ := h2 k hk
  obtain ⟨a', c', _, h3⟩ := hr
  obtain ⟨_, _, _, _, h4⟩ := h3 j hj
  exact h4
theorem outsG_bd {k : Nat} {h : Grid} (hb : BdG k h) (outs : List Int) : BdG k (outsG outs h) := by
  intro i j
  unfold outsG
  rw [List.getD_eq_getElem?_getD (l := List.map _ _), List.getElem?_map]
  cases outs[i]? with
  | none => simp [bd_zero]
  | some o => exact hb _ j
theorem outsG_len {m : Nat} {h : Grid} (hr : Rect m h) {outs : List Int} (ho : ∀ k, k < outs.length → 0 ≤ outs.getD k 0 ∧ outs.getD k 0 < h.length) : ∀ j (hj : j < (outsG outs h).length), (outsG outs h)[j].length = m := by
  intro j hj
  have hj2 : j < outs.length := by simpa [outsG] using hj
  obtain ⟨h1, h2⟩ := ho j hj2
  have h3 := hr (outs.getD j 0).toNat (by omega)
  have e : outs.getD j 0 = outs[j] := by simp [hj2]
  rw [e] at h3
  simpa [outsG] using h3
/-- what Run's results say -/
def RunRes (ins regs : Int) (code : List Ins) (outs : List Int) (g : Grid) (base : Nat) (w' : World) (ov : Value) (n : Nat) (s : Int) : Prop :=
  (¬ ProgOk ins regs code outs ∧ ov = .slice none 0 0 ∧ n = 0 ∧ s = 80) ∨
  (ProgOk ins regs code outs ∧ ¬ FitsG ins g ∧ ov = .slice none 0 0 ∧ n = 0 ∧ s = 5) ∨
  (ProgOk ins regs code outs ∧ FitsG ins g ∧ n < code.length ∧ (∃ h, after code (startG g regs.toNat (g.getD 0 []).length) n = some h) ∧ after code (startG g regs.toNat (g.getD 0 []).length) (n + 1) = none ∧ ov = .slice none 0 0 ∧ s = 20) ∨
  (ProgOk ins regs code outs ∧ FitsG ins g ∧ n = code.length ∧ s = 0 ∧ ∃ h, after code (startG g regs.toNat (g.getD 0 []).length) code.length = some h ∧ IsL 31 (RowW base) base w' ov (outsG outs h))
theorem runRes {ins regs : Int} {code : List Ins} {outs : List Int} {g : Grid} {w : World} {e : Ending} {w' : World} (h : RunPost ins regs code outs g w e w') : (∃ a len cp n s, e = .returned (.tuple #[.slice a len cp, .int .i64 ((n : Nat) : Int), .int .i64 s]) ∧ RunRes ins regs code outs g w.heap.size w' (.slice a len cp) n s) ∧ Below w.heap.size w w' := by
  obtain ⟨h, hB⟩ := h
  refine ⟨?_, hB⟩
  rcases h with ⟨h1, rfl⟩ | ⟨h1, h2, rfl⟩ | ⟨h1, h2, k, h, h3, h4, h5, rfl⟩ | ⟨h1, h2, h, v, h3, rfl, h4⟩
  · exact ⟨_, _, _, 0, _, rfl, .inl ⟨h1, rfl, rfl, rfl⟩⟩
  · exact ⟨_, _, _, 0, _, rfl, .inr (.inl ⟨h1, h2, rfl, rfl, rfl⟩)⟩
  · exact ⟨_, _, _, k, _, rfl, .inr (.inr (.inl ⟨h1, h2, h3, ⟨h, h4⟩, h5, rfl, rfl⟩))⟩
  · obtain ⟨a, c, rfl⟩ := h4.ex
    exact ⟨_, _, _, _, _, rfl, .inr (.inr (.inr ⟨h1, h2, rfl, rfl, h, h3, h4.isL⟩))⟩
theorem RunRes.keep {ins regs : Int} {code : List Ins} {outs : List Int} {g : Grid} {base : Nat} {w w' : World} {ov : Value} {n : Nat} {s : Int} (h : RunRes ins regs code outs g base w ov n s) (hb : Below w.heap.size w w') : RunRes ins regs code outs g base w' ov n s := by
  rcases h with h | h | h | ⟨h1, h2, h3, h4, h, h5, h6⟩
  · exact .inl h
  · exact .inr (.inl h)
  · exact .inr (.inr (.inl h))
  · exact .inr (.inr (.inr ⟨h1, h2, h3, h4, h, h5, h6.keep (prs_rowO lims_int _ _) hb⟩))
/-- what New's results say -/
def NewRes (ins regs : Int) (code : List Ins) (outs : List Int) (g : Grid) (base : Nat) (w' : World) (pv : Option Addr) (s : Int) : Prop :=
  (¬ ProgOk ins regs code outs ∧ pv = none ∧ s = 80) ∨
  (ProgOk ins regs code outs ∧ ¬ FitsG ins g ∧ pv = none ∧ s = 5) ∨
  (ProgOk ins regs code outs ∧ FitsG ins g ∧ s = 0 ∧ ∃ b rb rc, pv = some ⟨b, 0, none⟩ ∧ Mach base w' b rb rc ins regs code outs (startG g regs.toNat (g.getD 0 []).length) 0)
theorem newRes {ins regs : Int} {code : List Ins} {outs : List Int} {g : Grid} {w : World} {e : Ending} {w' : World} (h : NewPost ins regs code outs g w e w') : (∃ pv s, e = .returned (.tuple #[.pointer pv, .int .i64 s]) ∧ NewRes ins regs code outs g w.heap.size w' pv s) ∧ Below w.heap.size w w' := by
  obtain ⟨h, hB⟩ := h
  refine ⟨?_, hB⟩
  rcases h with ⟨h1, rfl⟩ | ⟨h1, h2, rfl⟩ | ⟨h1, h2, b, rb, rc, rfl, h3⟩
  · exact ⟨_, _, rfl, .inl ⟨h1, rfl, rfl⟩⟩
  · exact ⟨_, _, rfl, .inr (.inl ⟨h1, h2, rfl, rfl⟩)⟩
  · exact ⟨_, _, rfl, .inr (.inr ⟨h1, h2, rfl, b, rb, rc, rfl, h3⟩)⟩
end Go.Proofs.YtannhpadoooedaaDoor
/- The law VmSums. -/
namespace Go.Proofs.YtannhpadoooedaaDoor
open Num
open Go.ChangeShapes Go.WideShapes Go.ChangeAt Go.RowKit
set_option linter.unusedVariables false
set_option linter.unusedSimpArgs false
attribute [local go_sem ↓] Go.wp_at_zero Go.wp_at_succ
set_option maxRecDepth 100000 in
set_option maxHeartbeats 32000000 in
theorem vmSums_h (ins regs : Int) (ca oa : Option Addr) (cc oc : Nat) (code : List Ins) (outs : List Int) (vg : Value) (g : Grid) (vh : Value) (h : Grid) (w : World) (hp : ProgI w ca oa cc oc code outs) (hg : GridS w vg g) (hh : GridS w vh h) (hT : Tz32 w) :
    Calls Tryd.prog 3 #[.agg #[.int .i64 ins, .int .i64 regs, .slice ca code.length cc, .slice oa outs.length oc], vg, vh] w fun e w' => e = .returned (.bool true) ∧ Below w.heap.size w w' := by
  have wc := fun W (h : Below w.heap.size w W) => works_c W (hT.keep h)
  have lcg := fun W (k : Below w.heap.size w W) => long_c ins regs ca oa cc oc code.length outs.length vg g W (hg.i.keep k) hg.s hg.l hp.cl
  have lch := fun W (k : Below w.heap.size w W) => long_c ins regs ca oa cc oc code.length outs.length vh h W (hh.i.keep k) hh.s hh.l hp.cl
  have HP := Lib.hid hp
  have HG := Lib.hid hg
  have HH := Lib.hid hh
  have HT := Lib.hid hT
  have HBG := Lib.hid hg.i.bd
  have HBH := Lib.hid hh.i.bd
  obtain ⟨ga, gc, rfl, -⟩ := hg.i
  obtain ⟨ha, hc, rfl, -⟩ := hh.i
  clear hp hg hh hT
  have hB := Below.refl w.heap.size w
  go_enter Tryd.func3, Tryd.ntmps3
  go_wp2_with fail
  refine (wc _ (by repeat (first | exact Below.refl _ _ | exact hB | refine Below.drew ?_ | refine below_drewN ?_ _ | refine bset ?_ (by simp <;> omega) _ | refine bal ?_ _))).mono ?_
  rintro e w1 ⟨rfl, hb1⟩
  have p0 : w1.cell? ⟨w.heap.size, 0, none⟩ = some (.int .i64 ins) := bkeep hb1 (by first | assumption | exact cell_new (by with_reducible first | rfl | (simp; done) | (simp; omega)) rfl | (repeat (first | assumption | exact cell_new (by with_reducible first | rfl | (simp; done) | (simp; omega)) rfl | refine cell_alloc ?_ _ | refine cell_drew ?_ | refine cell_drewN ?_ _ | refine cell_far ?_ (by simp) _ | (refine cell_far ?_ (by simp <;> omega) _))) | simp [go_sem, *])
  have zp0 := cell_lt p0
  have p1 : w1.cell? ⟨w.heap.size, 1, none⟩ = some (.int .i64 regs) := bkeep hb1 (by first | assumption | exact cell_new (by with_reducible first | rfl | (simp; done) | (simp; omega)) rfl | (repeat (first | assumption | exact cell_new (by with_reducible first | rfl | (simp; done) | (simp; omega)) rfl | refine cell_alloc ?_ _ | refine cell_drew ?_ | refine cell_drewN ?_ _ | refine cell_far ?_ (by simp) _ | (refine cell_far ?_ (by simp <;> omega) _))) | simp [go_sem, *])
  have p2 : w1.cell? ⟨w.heap.size, 2, none⟩ = some (.slice ca code.length cc) := bkeep hb1 (by first | assumption | exact cell_new (by with_reducible first | rfl | (simp; done) | (simp; omega)) rfl | (repeat (first | assumption | exact cell_new (by with_reducible first | rfl | (simp; done) | (simp; omega)) rfl | refine cell_alloc ?_ _ | refine cell_drew ?_ | refine cell_drewN ?_ _ | refine cell_far ?_ (by simp) _ | (refine cell_far ?_ (by simp <;> omega) _))) | simp [go_sem, *])
  have p3 : w1.cell? ⟨w.heap.size, 3, none⟩ = some (.slice oa outs.length oc) := bkeep hb1 (by first | assumption | exact cell_new (by with_reducible first | rfl | (simp; done) | (simp; omega)) rfl | (repeat (first | assumption | exact cell_new (by with_reducible first | rfl | (simp; done) | (simp; omega)) rfl | refine cell_alloc ?_ _ | refine cell_drew ?_ | refine cell_drewN ?_ _ | refine cell_far ?_ (by simp) _ | (refine cell_far ?_ (by simp <;> omega) _))) | simp [go_sem, *])
  have hB : Below w.heap.size w w1 := bthen (by repeat (first | exact Below.refl _ _ | exact hB | refine Below.drew ?_ | refine below_drewN ?_ _ | refine bset ?_ (by simp <;> omega) _ | refine bal ?_ _)) hb1
  have hz : w.heap.size ≤ w1.heap.size := hB.size
  clear wc
  go_wp2_with fail
  refine (lcg _ (by repeat (first | exact Below.refl _ _ | exact hB | refine Below.drew ?_ | refine below_drewN ?_ _ | refine bset ?_ (by simp <;> omega) _ | refine bal ?_ _))).mono ?_
  rintro e w2 ⟨rfl, hb2⟩
  have p0 : w2.cell? ⟨w.heap.size, 0, none⟩ = some (.int .i64 ins) := bkeep hb2 (by first | assumption | exact cell_new (by with_reducible first | rfl | (simp; done) | (simp; omega)) rfl | (repeat (first | assumption | exact cell_new (by with_reducible first | rfl | (simp; done) | (simp; omega)) rfl | refine cell_alloc ?_ _ | refine cell_drew ?_ | refine cell_drewN ?_ _ | refine cell_far ?_ (by simp) _ | (refine cell_far ?_ (by simp <;> omega) _))) | simp [go_sem, *])
  have zp0 := cell_lt p0
  have p1 : w2.cell? ⟨w.heap.size, 1, none⟩ = some (.int .i64 regs) := bkeep hb2 (by first | assumption | exact cell_new (by with_reducible first | rfl | (simp; done) | (simp; omega)) rfl | (repeat (first | assumption | exact cell_new (by with_reducible first | rfl | (simp; done) | (simp; omega)) rfl | refine cell_alloc ?_ _ | refine cell_drew ?_ | refine cell_drewN ?_ _ | refine cell_far ?_ (by simp) _ | (refine cell_far ?_ (by simp <;> omega) _))) | simp [go_sem, *])
  have p2 : w2.cell? ⟨w.heap.size, 2, none⟩ = some (.slice ca code.length cc) := bkeep hb2 (by first | assumption | exact cell_new (by with_reducible first | rfl | (simp; done) | (simp; omega)) rfl | (repeat (first | assumption | exact cell_new (by with_reducible first | rfl | (simp; done) | (simp; omega)) rfl | refine cell_alloc ?_ _ | refine cell_drew ?_ | refine cell_drewN ?_ _ | refine cell_far ?_ (by simp) _ | (refine cell_far ?_ (by simp <;> omega) _))) | simp [go_sem, *])
  have p3 : w2.cell? ⟨w.heap.size, 3, none⟩ = some (.slice oa outs.length oc) := bkeep hb2 (by first | assumption | exact cell_new (by with_reducible first | rfl | (simp; done) | (simp; omega)) rfl | (repeat (first | assumption | exact cell_new (by with_reducible first | rfl | (simp; done) | (simp; omega)) rfl | refine cell_alloc ?_ _ | refine cell_drew ?_ | refine cell_drewN ?_ _ | refine cell_far ?_ (by simp) _ | (refine cell_far ?_ (by simp <;> omega) _))) | simp [go_sem, *])
  have hB : Below w.heap.size w w2 := bthen (by repeat (first | exact Below.refl _ _ | exact hB | refine Below.drew ?_ | refine below_drewN ?_ _ | refine bset ?_ (by simp <;> omega) _ | refine bal ?_ _)) hb2
  have hz : w.heap.size ≤ w2.heap.size := hB.size
  clear lcg
  cases hlg : longB code.length regs (sumG g) with
  | true =>
    go_wp2
    go_ret
    exact ⟨rfl, by repeat (first | exact Below.refl _ _ | exact hB | refine Below.drew ?_ | refine below_drewN ?_ _ | refine bset ?_ (by simp <;> omega) _ | refine bal ?_ _)⟩
  | false =>
  have hll : sumG g ≤ 300 := by
    have := of_decide_eq_false hlg; omega
  have HL := Lib.hid hll
  clear hlg hll
  go_wp2_with fail
  refine (lch _ (by repeat (first | exact Below.refl _ _ | exact hB | refine Below.drew ?_ | refine below_drewN ?_ _ | refine bset ?_ (by simp <;> omega) _ | refine bal ?_ _))).mono ?_
  rintro e w3 ⟨rfl, hb3⟩
  have p0 : w3.cell? ⟨w.heap.size, 0, none⟩ = some (.int .i64 ins) := bkeep hb3 (by first | assumption | exact cell_new (by with_reducible first | rfl | (simp; done) | (simp; omega)) rfl | (repeat (first | assumption | exact cell_new (by with_reducible first | rfl | (simp; done) | (simp; omega)) rfl | refine cell_alloc ?_ _ | refine cell_drew ?_ | refine cell_drewN ?_ _ | refine cell_far ?_ (by simp) _ | (refine cell_far ?_ (by simp <;> omega) _))) | simp [go_sem, *])
  have zp0 := cell_lt p0
  have p1 : w3.cell? ⟨w.heap.size, 1, none⟩ = some (.int .i64 regs) := bkeep hb3 (by first | assumption | exact cell_new (by with_reducible first | rfl | (simp; done) | (simp; omega)) rfl | (repeat (first | assumption | exact cell_new (by with_reducible first | rfl | (simp; done) | (simp; omega)) rfl | refine cell_alloc ?_ _ | refine cell_drew ?_ | refine cell_drewN ?_ _ | refine cell_far ?_ (by simp) _ | (refine cell_far ?_ (by simp <;> omega) _))) | simp [go_sem, *])
  have p2 : w3.cell? ⟨w.heap.size, 2, none⟩ = some (.slice ca code.length cc) := bkeep hb3 (by first | assumption | exact cell_new (by with_reducible first | rfl | (simp; done) | (simp; omega)) rfl | (repeat (first | assumption | exact cell_new (by with_reducible first | rfl | (simp; done) | (simp; omega)) rfl | refine cell_alloc ?_ _ | refine cell_drew ?_ | refine cell_drewN ?_ _ | refine cell_far ?_ (by simp) _ | (refine cell_far ?_ (by simp <;> omega) _))) | simp [go_sem, *])
  have p3 : w3.cell? ⟨w.heap.size, 3, none⟩ = some (.slice oa outs.length oc) := bkeep hb3 (by first | assumption | exact cell_new (by with_reducible first | rfl | (simp; done) | (simp; omega)) rfl | (repeat (first | assumption | exact cell_new (by with_reducible first | rfl | (simp; done) | (simp; omega)) rfl | refine cell_alloc ?_ _ | refine cell_drew ?_ | refine cell_drewN ?_ _ | refine cell_far ?_ (by simp) _ | (refine cell_far ?_ (by simp <;> omega) _))) | simp [go_sem, *])
  have hB : Below w.heap.size w w3 := bthen (by repeat (first | exact Below.refl _ _ | exact hB | refine Below.drew ?_ | refine below_drewN ?_ _ | refine bset ?_ (by simp <;> omega) _ | refine bal ?_ _)) hb3
  have hz : w.heap.size ≤ w3.heap.size := hB.size
  clear lch
  cases hlh : longB code.length regs (sumG h) with
  | true =>
    go_wp2
    go_ret
    exact ⟨rfl, by repeat (first | exact Below.refl _ _ | exact hB | refine Below.drew ?_ | refine below_drewN ?_ _ | refine bset ?_ (by simp <;> omega) _ | refine bal ?_ _)⟩
  | false =>
  have hll : sumG h ≤ 300 := by
    have := of_decide_eq_false hlh; omega
  have HLh := Lib.hid hll
  clear hlh hll
  have hgl : g.length ≤ 1048576 := HG.out.l
  have hhl : h.length ≤ 1048576 := HH.out.l
  by_cases hlen : g.length = h.length
  · have hne : ((g.length : Int) != (h.length : Int)) = false := by simp; omega
    have HLEN := Lib.hid hlen
    clear hlen
    have lx := fun W (k : Below w3.heap.size w3 W) => lists_c (.slice ga g.length gc) g W (HG.out.i.keep (bthen hB k)) (by omega) HL.out
    have ly := fun W (k : Below w3.heap.size w3 W) => lists_c (.slice ha h.length hc) h W (HH.out.i.keep (bthen hB k)) (by omega) HLh.out
    have hB3 := Below.refl w3.heap.size w3
    go_wp2_with fail
    refine (lx _ hB3).mono ?_
    rintro e w4 ⟨vx, rfl, hOx⟩
    have hb4 := hOx.bel
    go_wp2_with fail
    refine (ly _ hb4).mono ?_
    rintro e w5 ⟨vy, rfl, hOy⟩
    have hb45 := hOy.bel
    have hb5 := bthen hb4 hb45
    have HX := Lib.hid (hOx.below (prs_rowO lims_int _ _) hb45).gridV
    have HY := Lib.hid hOy.gridV
    obtain ⟨xa, xc, rfl⟩ := hOx.ex
    obtain ⟨ya, yc, rfl⟩ := hOy.ex
    obtain ⟨xa', xc', hxe, -, hxv⟩ := HX.out.view
    cases hxe
    obtain ⟨ya', yc', hye, -, hyv⟩ := HY.out.view
    cases hye
    have HXV := Lib.hid hxv
    have HYV := Lib.hid hyv
    clear hOx hOy hxv hyv lx ly
    have hB5 := Below.refl w5.heap.size w5
    go_wp2
    go_loopw [9, 47] (fun z x wr => ∃ k : Nat, k ≤ g.length ∧ x = .int .i64 k ∧ Hid (OwnL 31 (RowO IsInt 34 w5.heap.size) w5 wr z (addG (g.take k) (h.take k))) ∧ Hid (∀ j, j < k → (g.getD j []).length = (h.getD j []).length)) (fun _ x _ => g.length - (intOf x).toNat)
    case atStart => exact ⟨0, Nat.zero_le _, rfl, Lib.hid (OwnL.nil _ _ hB5), Lib.hid (fun j hj => by omega)⟩
    case round =>
      obtain ⟨k, hk, rfl, hO, hall⟩ := hrel
      have hBr := hO.out.bel
      by_cases hlt : k < g.length
      · have hltI : (k : Int) < (g.length : Int) := by omega
        have hlt2 : k < h.length := by have := HLEN.out; omega
        have hltI2 : (k : Int) < (h.length : Int) := by omega
        obtain ⟨b1, o1, u1, rfl, k1, i1⟩ := HXV.out k hlt
        obtain ⟨b2, o2, u2, rfl, k2, i2⟩ := HYV.out k hlt2
        obtain ⟨ra, rc, rfl, -, rv⟩ := i1.view
        obtain ⟨sa, sc, rfl, -, sv⟩ := i2.view
        have RV := Lib.hid rv
        have SV := Lib.hid sv
        have HLX := Lib.hid (Nat.le_trans (sumG_le hlt) HL.out)
        have hge : g.getD k [] = g[k] := by simp [hlt]
        have hhe : h.getD k [] = h[k] := by simp [hlt2]
        have HGE := Lib.hid (And.intro hge hhe)
        obtain ⟨n, hn⟩ : ∃ n, g[k].length = n := ⟨_, rfl⟩
        obtain ⟨m, hm⟩ : ∃ m, h[k].length = m := ⟨_, rfl⟩
        have HNM := Lib.hid (And.intro hn hm)
        rw [hn] at k1
        rw [hm] at k2
        have HS := Lib.hid (show ∀ W, Below w5.heap.size w5 W → W.cell? ⟨b1, o1 + k, none⟩ = some (.slice ra n rc) ∧ W.cell? ⟨b2, o2 + k, none⟩ = some (.slice sa m sc) from fun W h => ⟨bkeep h k1, bkeep h k2⟩)
        clear rv sv i1 i2 k1 k2 hn hm hge hhe
        obtain ⟨q1, q2⟩ := HS.out wr hBr
        have hBw := Below.refl wr.heap.size wr
        have hn300 : n ≤ 300 := by have h5 := HLX.out; rw [HGE.out.1, HNM.out.1] at h5; exact h5
        by_cases hnm : n = m
        · subst hnm
          have hnn : ((n : Int) != (n : Int)) = false := by simp
          go_wp2
          go_quiet (fail)
          go_wp2
          refine wp_name fun wa hWa => ?_
          have hBa : Below wr.heap.size wr wa := by rw [hWa]; repeat (first | exact Below.refl _ _ | exact hBw | refine Below.drew ?_ | refine below_drewN ?_ _ | refine bset ?_ (by simp <;> omega) _ | refine bal ?_ _)
          have hBa5 := bthen hBr hBa
          clear hWa q1 q2
          have hBaa := Below.refl wa.heap.size wa
          obtain ⟨q1, q2⟩ := HS.out wa hBa5
          have hlk : (addG (g.take k) (h.take k)).length = k := by rw [addG_len (by simp; omega)]; simp; omega
          obtain ⟨za, zc, hzv⟩ := hO.out.ex
          rw [hlk] at hzv
          subst hzv
          have HLK := Lib.hid hlk
          have HOa := Lib.hid (hO.out.below (prs_rowO lims_int _ _) hBa)
          have HSUM := Lib.hid (show ∀ j, (addR g[k] h[k]).getD j 0 = g[k].getD j 0 + h[k].getD j 0 from fun j => addR_get (by rw [HNM.out.1, HNM.out.2]) j)
          have HSL := Lib.hid (show (addR g[k] h[k]).length = n by rw [addR_len (by rw [HNM.out.1, HNM.out.2]), HNM.out.1])
          obtain ⟨A, hA⟩ : ∃ A, addR g[k] h[k] = A := ⟨_, rfl⟩
          rw [hA] at HSUM HSL
          have HA := Lib.hid hA
          have HBDX := Lib.hid (show ∀ j, Bd 64 (g[k].getD j 0) from fun j => by have := HBG.out k j; rwa [HGE.out.1] at this)
          have HBDY := Lib.hid (show ∀ j, Bd 64 (h[k].getD j 0) from fun j => by have := HBH.out k j; rwa [HGE.out.2] at this)
          clear hA hlk
          go_loopw [11, 66] (fun v x wq => ∃ j : Nat, j ≤ n ∧ x = .int .i64 j ∧ Hid (OwnF IsInt 34 wa wq v j (fun i => A.getD i 0))) (fun _ x _ => n - (intOf x).toNat)
          case atStart => exact ⟨0, Nat.zero_le _, rfl, Lib.hid (OwnF.nil _ _ _ hBaa)⟩
          case round =>
            obtain ⟨j, hj, rfl, hF⟩ := hrel
            by_cases hj2 : j < n
            · have hjI : (j : Int) < (n : Int) := by omega
              obtain ⟨rb, ro, rn, ra1, rl, rp, rfl, rc1, rc2, ri⟩ := RV.out j (by rw [HNM.out.1]; exact hj2)
              obtain ⟨sb, so, sn, sa1, sl, sp, rfl, sc1, sc2, si⟩ := SV.out j (by rw [HNM.out.2]; exact hj2)
              have hB5q := bthen hBa5 hF.out.bel
              obtain ⟨fa, fc, hfv⟩ : ∃ a c, _ = Value.slice a j c := by obtain ⟨a, c, h, _⟩ := hF.out.view; exact ⟨a, c, h⟩
              subst hfv
              have HAJ := Lib.hid (snoc_fun A j (by rw [HSL.out]; exact hj2))
              have ac := fun W (q : Below w5.heap.size w5 W) => addI_c _ _ _ _ 64 W (ri.keep q) (si.keep q) (HBDX.out j) (HBDY.out j) (by omega)
              rw [← HSUM.out j] at ac
              obtain ⟨z, hz⟩ : ∃ z, A.getD j 0 = z := ⟨_, rfl⟩
              rw [hz] at ac HAJ
              have HS2 := Lib.hid (show ∀ W, Below w5.heap.size w5 W → W.cell? ⟨b1, o1 + k, none⟩ = some (.slice (some ⟨rb, ro, none⟩) n rc) ∧ W.cell? ⟨b2, o2 + k, none⟩ = some (.slice (some ⟨sb, so, none⟩) n sc) ∧ W.cell? ⟨rb, ro + j * 2, none⟩ = some (.bool rn) ∧ W.cell? ⟨rb, ro + j * 2 + 1, none⟩ = some (.slice ra1 rl rp) ∧ W.cell? ⟨sb, so + j * 2, none⟩ = some (.bool sn) ∧ W.cell? ⟨sb, so + j * 2 + 1, none⟩ = some (.slice sa1 sl sp) from fun W h => ⟨(HS.out W h).1, (HS.out W h).2, bkeep h rc1, bkeep h rc2, bkeep h sc1, bkeep h sc2⟩)
              have hFq := hF.out.below lims_int (Below.refl _ _).drew
              have HFd := Lib.hid hFq
              obtain ⟨y1, y2, y3, y4, y5, y6⟩ := HS2.out wr hB5q
              have hBq := Below.refl wr.heap.size wr
              have hBc := hB5q
              clear q1 q2 rc1 rc2 sc1 sc2 ri si hz hFq
              go_wp2
              go_region_held3 (fun w' => w'.cell? ⟨b1, o1 + k, none⟩ = some (.slice (some ⟨rb, ro, none⟩) n rc) ∧ w'.cell? ⟨b2, o2 + k, none⟩ = some (.slice (some ⟨sb, so, none⟩) n sc) ∧ w'.cell? ⟨rb, ro + j * 2, none⟩ = some (.bool rn) ∧ w'.cell? ⟨rb, ro + j * 2 + 1, none⟩ = some (.slice ra1 rl rp) ∧ w'.cell? ⟨sb, so + j * 2, none⟩ = some (.bool sn) ∧ w'.cell? ⟨sb, so + j * 2 + 1, none⟩ = some (.slice sa1 sl sp))
                (first | (refine HS2.out _ ?_; (repeat (first | exact Below.refl _ _ | exact hBc | refine Below.drew ?_ | refine below_drewN ?_ _ | refine bset ?_ (by simp <;> omega) _ | refine bal ?_ _)); done) | (refine HS2.out _ ?_; exact bthen hBa5 HF8.out.bel) | fail)
                (first
                  | (refine step_num0 elInt (by decide) lims_int (by rfl) (by rfl) HF7.out HV7.out (by rfl) (by rfl) (by omega) ?_; intro v' w8 hF8 _ _; have HF8 := Lib.hid (hF8.congr' HAJ.out); clear hF8)
                  | (go_at_call 10; refine (ac _ ?_).mono ?_; (repeat (first | exact Below.refl _ _ | exact hBc | refine Below.drew ?_ | refine below_drewN ?_ _ | refine bset ?_ (by simp <;> omega) _ | refine bal ?_ _)); rintro e w7 ⟨⟨v7, rfl, hv7⟩, hb7⟩; have hBd : Below w5.heap.size w5 w7 := bthen (by repeat (first | exact Below.refl _ _ | exact hBc | refine Below.drew ?_ | refine below_drewN ?_ _ | refine bset ?_ (by simp <;> omega) _ | refine bal ?_ _)) hb7; clear hBc; have hBc := hBd; have HV7 := Lib.hid hv7; have HF7 := Lib.hid (HFd.out.below lims_int hb7); obtain ⟨n7, a7, c7, l7, rfl, -⟩ := hv7; unfold iv at *; clear hBd)
                  | fail)
              go_wp2
              exact ⟨⟨j + 1, by omega, by go_num, HF8⟩, by simp [intOf]; omega⟩
            · obtain rfl : j = n := by omega
              have HOW := Lib.hid (HOa.out.below (prs_rowO lims_int _ _) hF.out.bel)
              obtain ⟨fa, fc, hfv⟩ : ∃ a c, _ = Value.slice a j c := by obtain ⟨a, c, h, _⟩ := hF.out.view; exact ⟨a, c, h⟩
              subst hfv
              have hF2 : OwnF IsInt 34 wa wr (.slice fa j fc) A.length (fun i => A.getD i 0) := by rw [HSL.out]; exact hF.out
              have HRO := Lib.hid (hF2.rowO.rebase hBa5.size)
              have HSN := Lib.hid (addG_snoc hlt hlt2)
              have HAL := Lib.hid (show ∀ q, q < k + 1 → (g.getD q []).length = (h.getD q []).length from fun q hq => by
                by_cases e : q = k
                · subst e; rw [HGE.out.1, HGE.out.2, HNM.out.1, HNM.out.2]
                · exact hall.out q (by omega))
              clear hF2
              go_wp2_with (at_builtin; refine appL elRow (prs_rowO lims_int _ _) (by decide) (by rfl) (by rfl) (HOW.out.below (prs_rowO lims_int _ _) (bal (Below.refl _ _) _)) (HRO.out.keep lims_int (bal (Below.refl _ _) _)) (by rfl) (by rfl) (cell_new rfl rfl) (by rw [HLK.out]; omega) (by rw [HLK.out]; unfold maxLen; omega) ?_)
              intro v' w8 hO8 hk8
              have HO8 := Lib.hid hO8
              clear hO8 hk8
              go_wp2
              exact ⟨⟨k + 1, by omega, by go_num, by rw [HSN.out, HA.out]; exact HO8, HAL⟩, by simp [intOf]; omega⟩
        · have hnn : ((n : Int) != (m : Int)) = true := by simp; omega
          go_wp2
          go_quiet (fail)
          go_wp2
          go_ret
          exact ⟨rfl, bthen (bthen hB hb5) (bthen hBr (by repeat (first | exact Below.refl _ _ | exact hBw | refine Below.drew ?_ | refine below_drewN ?_ _ | refine bset ?_ (by simp <;> omega) _ | refine bal ?_ _)))⟩
      · obtain rfl : k = g.length := by omega
        have hgk : g.take g.length = g := List.take_length
        have hhk : h.take g.length = h := by rw [HLEN.out, List.take_length]
        rw [hgk, hhk] at hO
        have hb3r := bthen hb5 hBr
        have HZ := Lib.hid hO.out.gridV
        have HXr := Lib.hid (HX.out.keep (prs_row lims_int _ _) hBr)
        have HYr := Lib.hid (HY.out.keep (prs_row lims_int _ _) hBr)
        have hlz : (addG g h).length = g.length := addG_len HLEN.out
        have HBZ := Lib.hid (show BdG 65 (addG g h) from fun i j => by
          rw [addG_get HLEN.out]
          by_cases hi : i < g.length
          · rw [addR_get (hall.out i hi)]; exact (HBG.out i j).add (HBH.out i j)
          · have h1 : g.getD i [] = [] := by simp [List.getElem?_eq_none (Nat.le_of_not_lt hi)]
            rw [h1]; simp [addR, bd_zero])
        obtain ⟨za, zc, hzv⟩ := hO.out.ex
        rw [hlz] at hzv
        subst hzv
        have rx := fun vq q K W (k : Below w3.heap.size w3 W) (hv : GridV W vq q) (hq : q.length ≤ 1048576) (hK : BdG K q) (hK2 : K ≤ 65) => run_c ins regs ca oa cc oc code outs vq q K W (HP.out.c.keep (bthen hB k)) (HP.out.o.keep (bthen hB k)) HP.out.cn HP.out.on hv (by have := HP.out.cl; omega) (by have := HP.out.ol; omega) (by omega) hK (by omega) (HT.out.keep (bthen hB k))
        have hBw := Below.refl wr.heap.size wr
        have e0 := bkeep hb3r p0
        have e1 := bkeep hb3r p1
        have e2 := bkeep hb3r p2
        have e3 := bkeep hb3r p3
        clear hgk hhk hO
        go_wp2_with fail
        refine (rx _ g 64 _ (bthen hb3r (by repeat (first | exact Below.refl _ _ | exact hBw | refine Below.drew ?_ | refine below_drewN ?_ _ | refine bset ?_ (by simp <;> omega) _ | refine bal ?_ _))) HXr.out hgl HBG.out (by omega)).mono ?_
        rintro e w6 hr6
        obtain ⟨⟨ua, ul, uc, un, us, rfl, hres1⟩, hb6⟩ := runRes hr6
        have hb36 := bthen hb3r hb6
        have f0 := bkeep hb6 e0
        have f1 := bkeep hb6 e1
        have f2 := bkeep hb6 e2
        have f3 := bkeep hb6 e3
        clear hr6
        go_wp2_with fail
        refine (rx _ h 64 _ hb36 (HYr.out.keep (prs_row lims_int _ _) hb6) hhl HBH.out (by omega)).mono ?_
        rintro e w7 hr7
        obtain ⟨⟨va, vl, vc, vn, vs, rfl, hres2⟩, hb7⟩ := runRes hr7
        have hb37 := bthen hb36 hb7
        have k0 := bkeep hb7 f0
        have k1 := bkeep hb7 f1
        have k2 := bkeep hb7 f2
        have k3 := bkeep hb7 f3
        clear hr7
        go_wp2_with fail
        refine (rx _ (addG g h) 65 _ hb37 (HZ.out.keep (prs_row lims_int _ _) (bthen hb6 hb7)) (by omega) HBZ.out (by omega)).mono ?_
        rintro e w8 hr8
        obtain ⟨⟨wa, wl, wc', wn, ws, rfl, hres3⟩, hb8⟩ := runRes hr8
        have hb38 := bthen hb37 hb8
        have HR1 := Lib.hid (hres1.keep (bthen hb7 hb8))
        have HR2 := Lib.hid (hres2.keep hb8)
        have HR3 := Lib.hid hres3
        have hB8 := bthen hB hb38
        clear hr8 hres1 hres2 hres3 rx
        rcases HR1.out with ⟨-, -, -, rfl⟩ | ⟨-, -, -, -, rfl⟩ | ⟨-, -, -, -, -, -, rfl⟩ | ⟨hok, hfit, -, rfl, hx, hx1, hx2⟩
        · go_wp2
          go_ret
          exact ⟨rfl, hB8⟩
        · go_wp2
          go_ret
          exact ⟨rfl, hB8⟩
        · go_wp2
          go_ret
          exact ⟨rfl, hB8⟩
        have HOK := Lib.hid hok
        have HFIT := Lib.hid hfit
        have HX1 := Lib.hid hx1
        have HX2 := Lib.hid hx2
        clear hok hfit hx1 hx2
        rcases HR2.out with ⟨-, -, -, rfl⟩ | ⟨-, -, -, -, rfl⟩ | ⟨-, -, -, -, -, -, rfl⟩ | ⟨-, hfit2, -, rfl, hy, hy1, hy2⟩
        · go_wp2
          go_ret
          exact ⟨rfl, hB8⟩
        · go_wp2
          go_ret
          exact ⟨rfl, hB8⟩
        · go_wp2
          go_ret
          exact ⟨rfl, hB8⟩
        have HFIT2 := Lib.hid hfit2
        have HY1 := Lib.hid hy1
        have HY2 := Lib.hid hy2
        clear hfit2 hy1 hy2
        have h0 : 0 < g.length := by have h5 := HFIT.out.len; have h6 := HOK.out.i1; omega
        have hm0 := hall.out 0 h0
        obtain ⟨m, hmE⟩ : ∃ m, (g.getD 0 []).length = m := ⟨_, rfl⟩
        have hmH : (h.getD 0 []).length = m := by rw [← hm0, hmE]
        have hmZ : ((addG g h).getD 0 []).length = m := by rw [addG_get HLEN.out, addR_len hm0, hmE]
        have rg : Rect m g := by have := HFIT.out.rect; rwa [hmE] at this
        have rh : Rect m h := by have := HFIT2.out.rect; rwa [hmH] at this
        have hm4 : m ≤ 4096 := by have := HFIT.out.m; rwa [hmE] at this
        have gR : g.length ≤ regs.toNat := by have h5 := HFIT.out.len; have h6 := HOK.out.i2; omega
        have hR : h.length ≤ regs.toNat := by have := HLEN.out; omega
        have ax := HX1.out
        rw [hmE] at ax
        have ay := HY1.out
        rw [hmH] at ay
        have lgx := startG_len (n := m) gR
        have lgy := startG_len (n := m) hR
        have ia : ∀ q, q < code.length → (code.getD q default).a.toNat < regs.toNat := fun q hq => by have h5 := (ins_of HOK.out hq).a1; have h6 := (ins_of HOK.out hq).a0; omega
        have ib : ∀ q, q < code.length → (code.getD q default).b.toNat < regs.toNat := fun q hq => by have h5 := (ins_of HOK.out hq).b1; have h6 := (ins_of HOK.out hq).b0; omega
        have az := after_add lgx lgy (startG_rect (regs := regs.toNat) rg) (startG_rect (regs := regs.toNat) rh) ia ib (Nat.le_refl _) ax ay
        rw [startG_add HLEN.out] at az
        have fz : FitsG ins (addG g h) := ⟨by rw [hlz]; exact HFIT.out.len, by rw [hmZ]; exact addG_rect HLEN.out rg rh, by rw [hmZ]; exact hm4⟩
        have lx := (after_len ax).trans lgx
        have ly := (after_len ay).trans lgy
        have rx := after_rect (startG_rect (regs := regs.toNat) rg) lgx ia (Nat.le_refl _) ax
        have ry := after_rect (startG_rect (regs := regs.toNat) rh) lgy ia (Nat.le_refl _) ay
        have bx := after_bd (startG_bd (regs := regs.toNat) (n := m) HBG.out) (cs_of HOK.out) (Nat.le_refl _) ax
        have bY := after_bd (startG_bd (regs := regs.toNat) (n := m) HBH.out) (cs_of HOK.out) (Nat.le_refl _) ay
        have hZZ : wn = code.length ∧ ws = 0 ∧ IsL 31 (PRow 0) 0 w8 (.slice wa wl wc') (outsG outs (addG hx hy)) := by
          rcases HR3.out with k | k | k | k
          · exact absurd HOK.out k.1
          · exact absurd fz k.2.1
          · have h5 := after_mono k.2.2.2.2.1 (show wn + 1 ≤ code.length from k.2.2.1)
            rw [hmZ, az] at h5; cases h5
          · obtain ⟨_, _, k3, k4, hz, k5, k6⟩ := k
            rw [hmZ, az] at k5
            cases k5
            exact ⟨k3, k4, (k6.mono fun u x hr => (hr.row.rebase (Nat.zero_le _))).rebase (Nat.zero_le _)⟩
        obtain ⟨rfl, rfl, hz⟩ := hZZ
        rw [← outsG_add (lx.trans ly.symm)] at hz
        have hu : IsL 31 (PRow 0) 0 w8 (.slice ua ul uc) (outsG outs hx) := (HX2.out.mono fun u x hr => (hr.row.rebase (Nat.zero_le _))).rebase (Nat.zero_le _)
        have hv : IsL 31 (PRow 0) 0 w8 (.slice va vl vc) (outsG outs hy) := (HY2.out.mono fun u x hr => (hr.row.rebase (Nat.zero_le _))).rebase (Nat.zero_le _)
        have hos : ∀ q, q < outs.length → 0 ≤ outs.getD q 0 ∧ outs.getD q 0 < regs.toNat := fun q hq => by
          obtain ⟨h5, h6⟩ := HOK.out.os q hq
          have := HOK.out.i1; have := HOK.out.i2; omega
        have BX := Lib.hid (outsG_bd bx outs)
        have BY := Lib.hid (outsG_bd bY outs)
        have LX := Lib.hid (outsG_len rx (by rw [lx]; exact hos))
        have LY := Lib.hid (outsG_len ry (by rw [ly]; exact hos))
        have pl : (outsG outs hx).length = outs.length := by simp [outsG]
        have ql : (outsG outs hy).length = outs.length := by simp [outsG]
        obtain ⟨P, hP⟩ : ∃ P, outsG outs hx = P := ⟨_, rfl⟩
        obtain ⟨Q, hQ⟩ : ∃ Q, outsG outs hy = Q := ⟨_, rfl⟩
        rw [hP] at hu hz BX LX pl
        rw [hQ] at hv hz BY LY ql
        have zl : (addG P Q).length = outs.length := by rw [addG_len (by omega), pl]
        have hol := HOK.out.o2
        obtain ⟨ua', uc', hue, -, hu2⟩ := hu.view
        obtain ⟨va', vc', hve, -, hv2⟩ := hv.view
        obtain ⟨wa', wc'', hwe, -, hw2⟩ := hz.view
        rw [pl] at hue
        rw [ql] at hve
        rw [zl] at hwe
        cases hue
        cases hve
        cases hwe
        have HPL := Lib.hid (And.intro pl (And.intro ql zl))
        have HU := Lib.hid hu2
        have HV := Lib.hid hv2
        have HW := Lib.hid hw2
        have hcl := HOK.out.c1
        obtain ⟨N, hN⟩ : ∃ N, outs.length = N := ⟨_, rfl⟩
        rw [hN] at HPL hol
        clear hm0 hmE hmH hmZ rg rh gR hR ax ay lgx lgy ia ib az fz lx ly rx ry bx bY hz hu hv hos hP hQ hu2 hv2 hw2 pl ql zl h0 HR1 HR2 HR3 HX2 HY2 e0 e1 e2 e3 f0 f1 f2 f3 k0 k1 k2 k3 p0 p1 p2 p3
        rw [hN]
        clear hN
        have hBw8 := Below.refl w8.heap.size w8
        go_wp2
        go_loopw [138] (fun x wr => ∃ i : Nat, i ≤ N ∧ x = .int .i64 i ∧ Below w8.heap.size w8 wr) (fun x _ => N - (intOf x).toNat)
        case atStart => exact ⟨0, Nat.zero_le _, rfl, hBw8⟩
        case round =>
          obtain ⟨i, hi, rfl, hBr⟩ := hrel
          have hB38 := bthen hB8 hBr
          by_cases hlt : i < N
          · have hltI : (i : Int) < (N : Int) := by omega
            have hiP : i < P.length := by have := HPL.out.1; omega
            have hiQ : i < Q.length := by have := HPL.out.2.1; omega
            have hiZ : i < (addG P Q).length := by have := HPL.out.2.2; omega
            obtain ⟨b1, o1, x1, rfl, k1, i1⟩ := HU.out i hiP
            obtain ⟨b2, o2, x2, rfl, k2, i2⟩ := HV.out i hiQ
            obtain ⟨b3, o3, x3, rfl, k3, i3⟩ := HW.out i hiZ
            have hzi : (addG P Q)[i] = addR P[i] Q[i] := by
              have h5 := addG_get (show P.length = Q.length by have := HPL.out.1; have := HPL.out.2.1; omega) i
              rwa [show (addG P Q).getD i [] = (addG P Q)[i] by simp [hiZ], show P.getD i [] = P[i] by simp [hiP], show Q.getD i [] = Q[i] by simp [hiQ]] at h5
            have l1 := LX.out i hiP
            have l2 := LY.out i hiQ
            have l3 : (addR P[i] Q[i]).length = m := by rw [addR_len (by omega), l1]
            have hsum := fun j => addR_get (show P[i].length = Q[i].length by omega) j
            rw [hzi] at i3
            have bp : ∀ j, Bd (64 + 65 * code.length) (P[i].getD j 0) := fun j => by have := BX.out i j; rwa [show P.getD i [] = P[i] by simp [hiP]] at this
            have bq : ∀ j, Bd (64 + 65 * code.length) (Q[i].getD j 0) := fun j => by have := BY.out i j; rwa [show Q.getD i [] = Q[i] by simp [hiQ]] at this
            obtain ⟨p, hp⟩ : ∃ p, P[i] = p := ⟨_, rfl⟩
            obtain ⟨q, hq⟩ : ∃ q, Q[i] = q := ⟨_, rfl⟩
            obtain ⟨s, hs⟩ : ∃ s, addR P[i] Q[i] = s := ⟨_, rfl⟩
            rw [hs] at i3 l3 hsum
            rw [hp] at i1 l1 hsum bp
            rw [hq] at i2 l2 hsum bq
            obtain ⟨pa, pc, rfl, -, pv⟩ := i1.view
            obtain ⟨qa, qc, rfl, -, qv⟩ := i2.view
            obtain ⟨sa, sc, rfl, -, sv⟩ := i3.view
            rw [l1] at k1 pv
            rw [l2] at k2 qv
            rw [l3] at k3 sv
            have PV := Lib.hid pv
            have QV := Lib.hid qv
            have SV := Lib.hid sv
            have HSUM := Lib.hid hsum
            have HBP := Lib.hid bp
            have HBQ := Lib.hid bq
            have HS := Lib.hid (show ∀ W, Below w8.heap.size w8 W → W.cell? ⟨b1, o1 + i, none⟩ = some (.slice pa m pc) ∧ W.cell? ⟨b2, o2 + i, none⟩ = some (.slice qa m qc) ∧ W.cell? ⟨b3, o3 + i, none⟩ = some (.slice sa m sc) from fun W h => ⟨bkeep h k1, bkeep h k2, bkeep h k3⟩)
            clear pv qv sv hsum bp bq i1 i2 i3 k1 k2 k3 hp hq hs l1 l2 l3 hzi
            obtain ⟨c1, c2, c3⟩ := HS.out wr hBr
            go_wp2
            go_loopw [146] (fun x wq => ∃ j : Nat, j ≤ m ∧ x = .int .i64 j ∧ Below w8.heap.size w8 wq) (fun x _ => m - (intOf x).toNat)
            case atStart => exact ⟨0, Nat.zero_le _, rfl, hBr⟩
            case round =>
              clear c1 c2 c3
              obtain ⟨j, hj, rfl, hBq⟩ := hrel
              by_cases hj2 : j < m
              · have hjI : (j : Int) < (m : Int) := by omega
                obtain ⟨rb, ro, rn, ra1, rl, rp, rfl, rc1, rc2, ri⟩ := PV.out j hj2
                obtain ⟨tb, tq, tn, ta1, tl, tp, rfl, tc1, tc2, ti⟩ := QV.out j hj2
                obtain ⟨zb, zo, zn, za1, zl, zp, rfl, zc1, zc2, zi⟩ := SV.out j hj2
                have ac := fun W (k : Below w8.heap.size w8 W) => addI_c _ _ _ _ (64 + 65 * code.length) W (ri.keep k) (ti.keep k) (HBP.out j) (HBQ.out j) (by omega)
                rw [← HSUM.out j] at ac
                have cx := fun v W (k : Below w8.heap.size w8 W) (hv : IsInt W v (s.getD j 0)) => cmp_c _ v (s.getD j 0) (s.getD j 0) W (zi.keep k) hv
                rw [show cmpI (s.getD j 0) (s.getD j 0) = 0 by simp [cmpI]] at cx
                have HS2 := Lib.hid (show ∀ W, Below w8.heap.size w8 W → W.cell? ⟨b1, o1 + i, none⟩ = some (.slice (some ⟨rb, ro, none⟩) m pc) ∧ W.cell? ⟨b2, o2 + i, none⟩ = some (.slice (some ⟨tb, tq, none⟩) m qc) ∧ W.cell? ⟨b3, o3 + i, none⟩ = some (.slice (some ⟨zb, zo, none⟩) m sc) ∧ W.cell? ⟨rb, ro + j * 2, none⟩ = some (.bool rn) ∧ W.cell? ⟨rb, ro + j * 2 + 1, none⟩ = some (.slice ra1 rl rp) ∧ W.cell? ⟨tb, tq + j * 2, none⟩ = some (.bool tn) ∧ W.cell? ⟨tb, tq + j * 2 + 1, none⟩ = some (.slice ta1 tl tp) ∧ W.cell? ⟨zb, zo + j * 2, none⟩ = some (.bool zn) ∧ W.cell? ⟨zb, zo + j * 2 + 1, none⟩ = some (.slice za1 zl zp) from fun W h => ⟨(HS.out W h).1, (HS.out W h).2.1, (HS.out W h).2.2, bkeep h rc1, bkeep h rc2, bkeep h tc1, bkeep h tc2, bkeep h zc1, bkeep h zc2⟩)
                obtain ⟨y1, y2, y3, y4, y5, y6, y7, y8, y9⟩ := HS2.out wr hBq
                have hBc := hBq
                clear rc1 rc2 tc1 tc2 zc1 zc2 ri ti zi
                go_wp2
                go_region_held3 (fun w' => w'.cell? ⟨b1, o1 + i, none⟩ = some (.slice (some ⟨rb, ro, none⟩) m pc) ∧ w'.cell? ⟨b2, o2 + i, none⟩ = some (.slice (some ⟨tb, tq, none⟩) m qc) ∧ w'.cell? ⟨b3, o3 + i, none⟩ = some (.slice (some ⟨zb, zo, none⟩) m sc) ∧ w'.cell? ⟨rb, ro + j * 2, none⟩ = some (.bool rn) ∧ w'.cell? ⟨rb, ro + j * 2 + 1, none⟩ = some (.slice ra1 rl rp) ∧ w'.cell? ⟨tb, tq + j * 2, none⟩ = some (.bool tn) ∧ w'.cell? ⟨tb, tq + j * 2 + 1, none⟩ = some (.slice ta1 tl tp) ∧ w'.cell? ⟨zb, zo + j * 2, none⟩ = some (.bool zn) ∧ w'.cell? ⟨zb, zo + j * 2 + 1, none⟩ = some (.slice za1 zl zp))
                  (first | (refine HS2.out _ ?_; (repeat (first | exact Below.refl _ _ | exact hBc | refine Below.drew ?_ | refine below_drewN ?_ _ | refine bset ?_ (by simp <;> omega) _ | refine bal ?_ _)); done) | fail)
                  (first
                    | (go_at_call 10; refine (ac _ ?_).mono ?_; (repeat (first | exact Below.refl _ _ | exact hBc | refine Below.drew ?_ | refine below_drewN ?_ _ | refine bset ?_ (by simp <;> omega) _ | refine bal ?_ _)); rintro e w9 ⟨⟨v9, rfl, hv9⟩, hb9⟩; have hBd : Below w8.heap.size w8 w9 := bthen (by repeat (first | exact Below.refl _ _ | exact hBc | refine Below.drew ?_ | refine below_drewN ?_ _ | refine bset ?_ (by simp <;> omega) _ | refine bal ?_ _)) hb9; clear hBc; have hBc := hBd; have HV9 := Lib.hid hv9; obtain ⟨n9, a9, c9, l9, rfl, -⟩ := hv9; unfold iv at *; clear hBd)
                    | (go_at_call 12; refine (cx _ _ ?_ HV9.out).mono ?_; (repeat (first | exact Below.refl _ _ | exact hBc | refine Below.drew ?_ | refine below_drewN ?_ _ | refine bset ?_ (by simp <;> omega) _ | refine bal ?_ _)); rintro e w10 ⟨rfl, hb10⟩; have hBd : Below w8.heap.size w8 w10 := bthen (by repeat (first | exact Below.refl _ _ | exact hBc | refine Below.drew ?_ | refine below_drewN ?_ _ | refine bset ?_ (by simp <;> omega) _ | refine bal ?_ _)) hb10; clear hBc; have hBc := hBd; clear hBd)
                    | fail)
                go_wp2
                exact ⟨⟨j + 1, by omega, by go_num, hBc⟩, by simp [intOf]; omega⟩
              · obtain rfl : j = m := by omega
                go_wp2
                exact ⟨⟨i + 1, by omega, by go_num, hBq⟩, by simp [intOf]; omega⟩
          · obtain rfl : i = N := by omega
            go_wp2
            go_ret
            exact ⟨rfl, hB38⟩
  · have hne : ((g.length : Int) != (h.length : Int)) = true := by simp; omega
    go_wp2
    go_ret
    exact ⟨rfl, by repeat (first | exact Below.refl _ _ | exact hB | refine Below.drew ?_ | refine below_drewN ?_ _ | refine bset ?_ (by simp <;> omega) _ | refine bal ?_ _)⟩
end Go.Proofs.YtannhpadoooedaaDoor
