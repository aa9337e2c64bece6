/- Texts of this seat, laid together: ExC, ExD, ExE. Each opens with its own remark, which says what it proves, and under which conditions. -/
import Derived.Test.YtannhpadoooedaaDoorH03
import Derived.Test.YtannhpadoooedaaDoorG09
import Derived.Deep.LoopGhost
import Derived.Test.YtannhpadoooedaaDoorG12
import Derived.Test.YtannhpadoooedaaDoorG33
import Derived.Laws.CopyRow
import Derived.Laws.Rows
import Derived.Laws.Tables
import Derived.Test.YtannhpadoooedaaDoorG37
import Derived.Test.YtannhpadoooedaaDoorG27
set_option linter.unusedVariables false
set_option linter.unusedSimpArgs false
/- exact: run on numbers. -/
namespace Go.Proofs.YtannhpadoooedaaDoor
open Num
open Go.ChangeShapes Go.WideShapes Go.ChangeAt Go.RowKit
set_option linter.unusedVariables false
set_option linter.unusedSimpArgs false
attribute [local go_sem ↓] Go.wp_at_zero Go.wp_at_succ
/-- a function value that is told of each instruction's number, and goes on -/
def FnT (F : Nat) (caps : Array Value) : Prop :=
  ∀ W v x (k : Int), IsInt W v x → Calls Tryd.prog F (#[.int .i64 k, v] ++ caps) W fun e w' => e = .returned (.bool true) ∧ Below W.heap.size W w'
theorem told_c : FnT 55 #[] := fun W v x k hv => by
  obtain ⟨n1, a1, c1, l1, rfl, -⟩ := hv
  unfold iv
  have hB := Below.refl W.heap.size W
  show Calls Tryd.prog 55 #[.int .i64 k, .agg #[.bool n1, .slice a1 l1.length c1]] W _
  go_enter Tryd.func55, Tryd.ntmps55
  go_wp2
  go_ret
  exact ⟨rfl, by repeat (first | exact Below.refl _ _ | exact hB | refine Below.drew ?_ | refine below_drewN ?_ _ | refine bset ?_ (by simp <;> omega) _ | refine bal ?_ _)⟩
/-- what run answers -/
def RunNPost (code : List Ins) (r : List Int) (rb : Nat) (w : World) (e : Ending) (w' : World) : Prop :=
  ((∃ (m : Nat) (s : List Int), m < code.length ∧ afterN code r m = some s ∧ afterN code r (m + 1) = none ∧ e = .returned (.int .i64 m)) ∨
   (∃ s, afterN code r code.length = some s ∧ e = .returned (.int .i64 (-1)) ∧ IntsF IsInt w' rb 0 r.length (fun j => s.getD j 0) ∧ typOf w' rb = some 34)) ∧ Out (fun k => k = rb) w w'
set_option maxRecDepth 100000 in
set_option maxHeartbeats 16000000 in
theorem runN_c (ins regs : Int) (ca oa : Option Addr) (cc ol oc : Nat) (code : List Ins) (r : List Int) (K rb F : Nat) (caps : Array Value) (w : World) (hc : InsV w ca cc code) (hcs : ∀ n, n < code.length → InsOk (code.getD n default) r.length) (hcl : code.length ≤ 16384) (hCs : Cs code) (hr128 : r.length ≤ 128)
    (hI : IntsF IsInt w rb 0 r.length (fun j => r.getD j 0)) (hF : Free w rb) (hT : typOf w rb = some 34) (hb : ∀ j, Bd K (r.getD j 0)) (hK : K ≤ 2147483648) (hft : FnT F caps) (eF : Enters Tryd.prog F) (hne : ∀ b off, ca = some ⟨b, off, none⟩ → 0 < code.length → b ≠ rb) :
    Calls Tryd.prog 53 #[numV, .agg #[.int .i64 ins, .int .i64 regs, .slice ca code.length cc, .slice oa ol oc], .slice (some ⟨rb, 0, none⟩) r.length r.length, .func (.func F) #[] caps] w (RunNPost code r rb w) := by
  have HC := Lib.hid hc
  have HCS := Lib.hid hcs
  have HCs := Lib.hid hCs
  have HBD := Lib.hid hb
  have HFT := Lib.hid hft
  have HNE := Lib.hid hne
  have HI := Lib.hid (And.intro hI (And.intro hF hT))
  have zrb := hF.1
  clear hc hcs hCs hb hft hI hF hT hne
  unfold Enters at eF
  have hB := Below.refl w.heap.size w
  unfold numV
  obtain ⟨R, hR⟩ : ∃ R, r.length = R := ⟨_, rfl⟩
  rw [hR] at HI HCS hr128 ⊢
  have HR := Lib.hid hR
  clear hR
  go_enter Tryd.func53, Tryd.ntmps53
  go_wp2
  go_step3
  go_wp2
  go_step3
  go_wp2
  refine wp_name fun w0 hW0 => ?_
  have f0 : w0.cell? ⟨w.heap.size, 0, none⟩ = some (.func (.func 70) #[] #[]) := by rw [hW0]; exact (by first | assumption | exact cell_new (by with_reducible first | rfl | (simp; done) | (simp; omega)) rfl | (repeat (first | assumption | exact cell_new (by with_reducible first | rfl | (simp; done) | (simp; omega)) rfl | refine cell_alloc ?_ _ | refine cell_drew ?_ | refine cell_drewN ?_ _ | refine cell_far ?_ (by simp) _ | (refine cell_far ?_ (by simp <;> omega) _))) | simp [go_sem, *])
  have zf0 := cell_lt f0
  have f1 : w0.cell? ⟨w.heap.size, 1, none⟩ = some (.func (.func 10) #[] #[]) := by rw [hW0]; exact (by first | assumption | exact cell_new (by with_reducible first | rfl | (simp; done) | (simp; omega)) rfl | (repeat (first | assumption | exact cell_new (by with_reducible first | rfl | (simp; done) | (simp; omega)) rfl | refine cell_alloc ?_ _ | refine cell_drew ?_ | refine cell_drewN ?_ _ | refine cell_far ?_ (by simp) _ | (refine cell_far ?_ (by simp <;> omega) _))) | simp [go_sem, *])
  have f2 : w0.cell? ⟨w.heap.size, 2, none⟩ = some (.func (.func 71) #[] #[]) := by rw [hW0]; exact (by first | assumption | exact cell_new (by with_reducible first | rfl | (simp; done) | (simp; omega)) rfl | (repeat (first | assumption | exact cell_new (by with_reducible first | rfl | (simp; done) | (simp; omega)) rfl | refine cell_alloc ?_ _ | refine cell_drew ?_ | refine cell_drewN ?_ _ | refine cell_far ?_ (by simp) _ | (refine cell_far ?_ (by simp <;> omega) _))) | simp [go_sem, *])
  have f3 : w0.cell? ⟨w.heap.size, 3, none⟩ = some (.func (.func 86) #[] #[]) := by rw [hW0]; exact (by first | assumption | exact cell_new (by with_reducible first | rfl | (simp; done) | (simp; omega)) rfl | (repeat (first | assumption | exact cell_new (by with_reducible first | rfl | (simp; done) | (simp; omega)) rfl | refine cell_alloc ?_ _ | refine cell_drew ?_ | refine cell_drewN ?_ _ | refine cell_far ?_ (by simp) _ | (refine cell_far ?_ (by simp <;> omega) _))) | simp [go_sem, *])
  have f4 : w0.cell? ⟨w.heap.size, 4, none⟩ = some (.func (.func 87) #[] #[]) := by rw [hW0]; exact (by first | assumption | exact cell_new (by with_reducible first | rfl | (simp; done) | (simp; omega)) rfl | (repeat (first | assumption | exact cell_new (by with_reducible first | rfl | (simp; done) | (simp; omega)) rfl | refine cell_alloc ?_ _ | refine cell_drew ?_ | refine cell_drewN ?_ _ | refine cell_far ?_ (by simp) _ | (refine cell_far ?_ (by simp <;> omega) _))) | simp [go_sem, *])
  have p2 : w0.cell? ⟨w.heap.size + 1, 2, none⟩ = some (.slice ca code.length cc) := by rw [hW0]; exact (by first | assumption | exact cell_new (by with_reducible first | rfl | (simp; done) | (simp; omega)) rfl | (repeat (first | assumption | exact cell_new (by with_reducible first | rfl | (simp; done) | (simp; omega)) rfl | refine cell_alloc ?_ _ | refine cell_drew ?_ | refine cell_drewN ?_ _ | refine cell_far ?_ (by simp) _ | (refine cell_far ?_ (by simp <;> omega) _))) | simp [go_sem, *])
  have zp2 := cell_lt p2
  have hB : Below w.heap.size w w0 := by rw [hW0]; repeat (first | exact Below.refl _ _ | exact hB | refine Below.drew ?_ | refine below_drewN ?_ _ | refine bset ?_ (by simp <;> omega) _ | refine bal ?_ _)
  have hz : w.heap.size ≤ w0.heap.size := hB.size
  clear hW0
  have HP := Lib.hid (show ∀ W, Out (fun k => k = rb) w0 W → W.cell? ⟨w.heap.size, 0, none⟩ = some (.func (.func 70) #[] #[]) ∧ W.cell? ⟨w.heap.size, 1, none⟩ = some (.func (.func 10) #[] #[]) ∧ W.cell? ⟨w.heap.size, 2, none⟩ = some (.func (.func 71) #[] #[]) ∧ W.cell? ⟨w.heap.size, 3, none⟩ = some (.func (.func 86) #[] #[]) ∧ W.cell? ⟨w.heap.size, 4, none⟩ = some (.func (.func 87) #[] #[]) ∧ W.cell? ⟨w.heap.size + 1, 2, none⟩ = some (.slice ca code.length cc) from fun W h =>
    have hne : ¬ w.heap.size = rb := by omega
    have hne1 : ¬ w.heap.size + 1 = rb := by omega
    ⟨okeep h f0 hne, okeep h f1 hne, okeep h f2 hne, okeep h f3 hne, okeep h f4 hne, okeep h p2 hne1⟩)
  have hO0 := Out.of_below (fun k => k = rb) hB
  clear f0 f1 f2 f3 f4 p2
  go_loopw [16] (fun x wr => ∃ n : Nat, n ≤ code.length ∧ x = .int .i64 n ∧ Out (fun k => k = rb) w0 wr ∧ Hid (∃ s, afterN code r n = some s ∧ IntsF IsInt wr rb 0 R (fun j => s.getD j 0) ∧ Free wr rb ∧ typOf wr rb = some 34)) (fun x _ => code.length - (intOf x).toNat)
  case atStart => exact ⟨0, Nat.zero_le _, rfl, Out.refl _ _, Lib.hid ⟨r, rfl, HI.out.1.keep lims_int hB, HI.out.2.1.keep hB, typ_keep HI.out.2.2 hB⟩⟩
  case round =>
    obtain ⟨n, hn, rfl, hOr, hrel⟩ := hrel
    obtain ⟨s, hs, hI, hF, hT⟩ := hrel.out
    have HS := Lib.hid (And.intro hs (And.intro hI (And.intro hF hT)))
    have hOw : Out (fun k => k = rb) w wr := hO0.trans hOr
    have hsl := afterN_len hs
    have hbd := afterN_bd HBD.out HCs.out hn hs
    have HBN := Lib.hid (And.intro hsl hbd)
    have hz0 : w0.heap.size ≤ wr.heap.size := hOr.size
    obtain ⟨f0, f1, f2, f3, f4, p2⟩ := HP.out wr hOr
    clear hs hI hF hT hsl hbd hrel
    by_cases hlt : n < code.length
    · have hltI : (n : Int) < (code.length : Int) := by omega
      rcases HC.out with h0 | ⟨cb, co, rfl, hcap, hcell⟩
      · rw [h0] at hlt; simp at hlt
      have hcb : ¬ cb = rb := HNE.out cb co rfl (by omega)
      obtain ⟨q0, q1, q2, q3, q4⟩ := hcell n hlt
      replace q0 := okeep hOw q0 hcb
      replace q1 := okeep hOw q1 hcb
      replace q2 := okeep hOw q2 hcb
      replace q3 := okeep hOw q3 hcb
      replace q4 := okeep hOw q4 hcb
      have zq := cell_lt q0
      have zf := cell_lt f0
      have zp := cell_lt p2
      have hio := HCS.out n hlt
      have dc := fun W (k : Below wr.heap.size wr W) => doN_c (code.getD n default) (K + 65 * n) rb R (fun j => s.getD j 0) W (HS.out.2.1.keep lims_int k) hio (fun j _ => HBN.out.2 j) (by omega) hr128
      have HNX := Lib.hid (fun (s : List Int) (e : afterN code r n = some s) => afterN_succ e)
      have t0 := hio.t0
      have t1 := hio.t1
      obtain ⟨Z, hZ⟩ : ∃ Z, opI (code.getD n default) (s.getD (code.getD n default).a.toNat 0) (s.getD (code.getD n default).b.toNat 0) = Z := ⟨_, rfl⟩
      rw [hZ] at dc
      have HZ := Lib.hid hZ
      obtain ⟨i, hi⟩ : ∃ i, i = code.getD n default := ⟨_, rfl⟩
      rw [← hi] at q0 q1 q2 q3 q4 dc t0 t1
      have HIN := Lib.hid hi
      clear hi hcell hio hZ
      obtain ⟨op, it, ia, ib, ic⟩ := i
      dsimp only at q0 q1 q2 q3 q4 t0 t1
      obtain ⟨nt, rfl⟩ : ∃ x : Nat, it = x := ⟨it.toNat, by omega⟩
      have t1' : nt < R := by omega
      unfold Ins.v numV at dc
      dsimp only at dc
      unfold AnsP at dc
      have hBw := Below.refl wr.heap.size wr
      cases Z with
      | none =>
        dsimp only at dc
        go_wp2_with fail
        refine (dc _ (by repeat (first | exact Below.refl _ _ | exact hBw | refine Below.drew ?_ | refine below_drewN ?_ _ | refine bset ?_ (by simp <;> omega) _ | refine bal ?_ _))).mono ?_
        rintro e w5 ⟨⟨v5, x5, rfl, hi5⟩, hb5⟩
        have hB5 : Below wr.heap.size wr w5 := bthen (by repeat (first | exact Below.refl _ _ | exact hBw | refine Below.drew ?_ | refine below_drewN ?_ _ | refine bset ?_ (by simp <;> omega) _ | refine bal ?_ _)) hb5
        obtain ⟨n5, a5, c5, l5, rfl, -⟩ := hi5
        unfold iv at *
        clear dc
        go_wp2
        go_ret
        refine ⟨.inl ⟨n, s, hlt, HS.out.1, ?_, rfl⟩, hOw.below (by repeat (first | exact Below.refl _ _ | exact hB5 | refine Below.drew ?_ | refine below_drewN ?_ _ | refine bset ?_ (by simp <;> omega) _ | refine bal ?_ _))⟩
        rw [HNX.out s HS.out.1, HZ.out]; rfl
      | some z =>
        dsimp only at dc
        go_wp2_with fail
        refine (dc _ (by repeat (first | exact Below.refl _ _ | exact hBw | refine Below.drew ?_ | refine below_drewN ?_ _ | refine bset ?_ (by simp <;> omega) _ | refine bal ?_ _))).mono ?_
        rintro e w5 ⟨⟨v5, rfl, hi5⟩, hb5⟩
        have i1 : w5.cell? ⟨wr.heap.size, 1, none⟩ = some (.int .i64 nt) := bkeep hb5 (by first | exact cell_new rfl rfl | exact cell_drew (cell_new rfl rfl))
        have hB5 : Below wr.heap.size wr w5 := bthen (by repeat (first | exact Below.refl _ _ | exact hBw | refine Below.drew ?_ | refine below_drewN ?_ _ | refine bset ?_ (by simp <;> omega) _ | refine bal ?_ _)) hb5
        have HV5 := Lib.hid hi5
        obtain ⟨n5, a5, c5, l5, rfl, -⟩ := hi5
        unfold iv at *
        clear dc
        have hI5 := HS.out.2.1.keep lims_int hB5
        have hF5 := HS.out.2.2.1.keep hB5
        obtain ⟨nx, ax, lx, cx, o0, o1, -⟩ := hI5.at0 t1'
        have of0 := hF5.2 (nt * 2)
        have of1 := hF5.2 (nt * 2 + 1)
        have zo := cell_lt o0
        have zi := cell_lt i1
        have HI5 := Lib.hid (And.intro hI5 (And.intro hF5 (typ_keep HS.out.2.2.2 hB5)))
        clear hI5 hF5
        have hN : Hid (∀ W, W = ((w5.setCell ⟨rb, nt * 2, none⟩ (.bool n5)).setCell ⟨rb, nt * 2 + 1, none⟩ (.slice a5 l5.length c5)).alloc (.cells #[.bool n5, .slice a5 l5.length c5] 34) → IntsF IsInt W rb 0 R (fun j => (s.set nt z).getD j 0) ∧ Free W rb ∧ typOf W rb = some 34 ∧ IsInt W (.agg #[.bool n5, .slice a5 l5.length c5]) z ∧ Out (fun k => k = rb) w0 W ∧ W.cell? ⟨w5.heap.size, 0, none⟩ = some (.bool n5) ∧ W.cell? ⟨w5.heap.size, 1, none⟩ = some (.slice a5 l5.length c5)) := Lib.hid fun W hW => by
          subst hW
          have ka : Below ((w5.setCell ⟨rb, nt * 2, none⟩ (.bool n5)).setCell ⟨rb, nt * 2 + 1, none⟩ (.slice a5 l5.length c5)).heap.size ((w5.setCell ⟨rb, nt * 2, none⟩ (.bool n5)).setCell ⟨rb, nt * 2 + 1, none⟩ (.slice a5 l5.length c5)) (((w5.setCell ⟨rb, nt * 2, none⟩ (.bool n5)).setCell ⟨rb, nt * 2 + 1, none⟩ (.slice a5 l5.length c5)).alloc (.cells #[.bool n5, .slice a5 l5.length c5] 34)) := bal (Below.refl _ _) _
          refine ⟨((IntsF.store0 lims_int HI5.out.1 t1' HV5.out).keep lims_int ka).congr fun j hj => ?_, ((HI5.out.2.1.set _ _).set _ _).keep ka, typ_keep (by rw [typ_set, typ_set]; exact HI5.out.2.2) ka, ((HV5.out).lim (Lim.set2 o0 o1 _ _)).keep ka, (((hOr.below hB5).set (fun _ => rfl) _).set (fun _ => rfl) _).below ka, cell_new (by simp) rfl, cell_new (by simp) rfl⟩
          by_cases e : j = nt
          · subst e; simp [HBN.out.1, HR.out, t1']
          · have : (s.set nt z)[j]? = s[j]? := List.getElem?_set_ne (fun h => e h.symm)
            simp [e, List.getD_eq_getElem?_getD, this]
        have HST := Lib.hid (show afterN code r (n + 1) = some (s.set nt z) by rw [HNX.out s HS.out.1, HZ.out, ← HIN.out, Option.map_some]; dsimp only; rw [Int.toNat_natCast])
        go_upto_region 8 with (fail)
        refine wp_name fun w6 hW6 => ?_
        have HN6 := Lib.hid (hN.out w6 hW6)
        have y0 := HN6.out.2.2.2.2.2.1
        have y1 := HN6.out.2.2.2.2.2.2
        have z6 := cell_lt y0
        have hB6 := Below.refl w6.heap.size w6
        clear hW6 hN o0 o1 of0 of1 i1 HI5 HV5 q0 q1 q2 q3 q4 f0 f1 f2 f3 f4 p2
        go_wp2_with (go_at_fn F; refine (HFT.out _ _ z _ (HN6.out.2.2.2.1.keep ?_)).mono ?_; (repeat (first | exact Below.refl _ _ | exact hB6 | refine Below.drew ?_ | refine below_drewN ?_ _ | refine bset ?_ (by simp <;> omega) _ | refine bal ?_ _)); rintro e w7 ⟨rfl, hb7⟩)
        have hB7 : Below w6.heap.size w6 w7 := bthen (by repeat (first | exact Below.refl _ _ | exact hB6 | refine Below.drew ?_ | refine below_drewN ?_ _ | refine bset ?_ (by simp <;> omega) _ | refine bal ?_ _)) hb7
        have HNEXT := Lib.hid (show ∃ s', afterN code r (n + 1) = some s' ∧ IntsF IsInt w7 rb 0 R (fun j => s'.getD j 0) ∧ Free w7 rb ∧ typOf w7 rb = some 34 from ⟨_, HST.out, HN6.out.1.keep lims_int hB7, HN6.out.2.1.keep hB7, typ_keep HN6.out.2.2.1 hB7⟩)
        have hO7 : Out (fun k => k = rb) w0 w7 := HN6.out.2.2.2.2.1.below hB7
        clear HN6 y0 y1
        go_wp2
        exact ⟨⟨n + 1, by omega, by go_num, hO7, HNEXT⟩, by simp [intOf]; omega⟩
    · obtain rfl : n = code.length := by omega
      go_wp2
      go_ret
      exact ⟨.inr ⟨s, HS.out.1, rfl, by rw [HR.out]; exact HS.out.2.1, HS.out.2.2.2⟩, hOw⟩
end Go.Proofs.YtannhpadoooedaaDoor
/- exact: a new row of noughts, into which a row of numbers is copied. -/
namespace Go.Proofs.YtannhpadoooedaaDoor
open Num
open Go.ChangeShapes Go.WideShapes Go.ChangeAt Go.RowKit
set_option linter.unusedVariables false
set_option linter.unusedSimpArgs false
/-- the registers at first -/
def startN (l : List Int) (R : Nat) : List Int := l ++ List.replicate (R - l.length) 0
theorem startN_len {l : List Int} {R : Nat} (h : l.length ≤ R) : (startN l R).length = R := by simp [startN]; omega
theorem startN_lt {l : List Int} {R j : Nat} (h : j < l.length) : (startN l R).getD j 0 = l.getD j 0 := by
  unfold startN; simp [List.getD_eq_getElem?_getD, List.getElem?_append_left h]
theorem startN_ge {l : List Int} {R j : Nat} (h : l.length ≤ j) : (startN l R).getD j 0 = 0 := by
  unfold startN
  rw [List.getD_eq_getElem?_getD, List.getElem?_append_right h]
  by_cases e : j - l.length < R - l.length
  · simp [e]
  · simp [List.getElem?_replicate, e]
/-- what the outs hold -/
def outsN (outs : List Int) (s : List Int) : List Int := outs.map fun k => s.getD k.toNat 0
section
variable {ops : Array Oper} {o : Oper} {a : Act} {Q : Exit → Act → World → Prop} {w : World} {d x : Operand}
set_option maxRecDepth 100000 in
/-- copy of a row into a new one -/
theorem copy_ints {rest : List Oper} (hgd : o.guard = none) (ho : o.op = .call { callee := .builtin .copy, args := #[d, x], argTypes := #[31, 31] }) {g R c base : Nat} {ad : Option Addr} {l : List Int}
    (hd : a.eval d = .slice (some ⟨g, 0, none⟩) R R) (hs : a.eval x = .slice ad l.length c) (hv : PRow base w (.slice ad l.length c) l) (hl : l.length ≤ R) (hg : w.heap[g]? = some (Obj.cells (zcel R) 34 (0, 0)))
    (h : ∀ n w', IntsF IsInt w' g 0 R (fun j => (startN l R).getD j 0) → Free w' g → typOf w' g = some 34 → Out (fun k => k = g) w w' → wpList Tryd.prog ops Q rest (a.put o.dst n) w') : wpList Tryd.prog ops Q (o :: rest) a w := by
  obtain ⟨i0, z0, hi, hz0, hz1, hz2, hz3⟩ := elInt.info
  obtain ⟨a', c', he, h2, h3, h4⟩ := hv
  obtain ⟨rfl, -, rfl⟩ := Value.slice.inj he
  have hty : typOf w g = some 34 := by unfold typOf; rw [hg]
  have hzs : (zcel R).size = R * 2 := by simp [zcel, size_madeCells]
  have hm : Nat.min l.length R = l.length := Nat.min_eq_left hl
  have key : ∃ n w', (Builtin.copy_ #[31, 31] o.type #[.slice (some ⟨g, 0, none⟩) R R, .slice ad l.length c]).run Tryd.prog w = .ok n w' ∧ IntsF IsInt w' g 0 R (fun j => (startN l R).getD j 0) ∧ Free w' g ∧ typOf w' g = some 34 ∧ Out (fun k => k = g) w w' := by
    rcases h4 with rfl | ⟨b, off, rfl, hb, ht, hi'⟩
    · refine ⟨goInt 0, w, ?_, ?_, ?_, hty, Out.refl _ _⟩
      · cases ad with
        | none => simp [Builtin.copy_, run_underlying Tryd.underlying31, Builtin.lenOf, Builtin.firstCells, sizeOf, typeInfo, hi, storeCells]
        | some q => simp [Builtin.copy_, run_underlying Tryd.underlying31, Builtin.lenOf, Builtin.firstCells, sizeOf, typeInfo, hi, storeCells, loadCells, loadCellsFrom]
      · intro k hk
        obtain ⟨e1, e2⟩ := zcel_at hk
        refine ⟨false, none, 0, 0, by simp [World.cell?, hg, e1], by simp [World.cell?, hg, e2], ?_⟩
        show IsInt w _ ((startN [] R).getD k 0)
        rw [startN_ge (by simp)]; exact isInt_zero _
      · exact ⟨(Array.getElem?_eq_some_iff.1 hg).1, fun j => by simp [World.frozen?, hg]⟩
    · have hl2 : (cellsAt w b off (l.length * 2)).length = l.length * i0.size := by rw [cellsAt_len, hz1]
      have hsrc : ∀ j u, (cellsAt w b off (l.length * 2))[j]? = some u → w.cell? ((⟨b, off, none⟩ : Addr).add j) = some u := cellsAt_at (Below.refl _ _) fun j hj => by obtain ⟨v, hv, _⟩ := intsF_cells hi' j hj; exact ⟨v, hv⟩
      have hf := run_firstCells_some (P := Tryd.prog) w i0.size l.length ⟨b, off, none⟩ l.length c _ hl2 hsrc
      have hst := run_storeCells_at Tryd.prog g 0 _ (cellsAt w b off (l.length * 2)) 0 (zcel R) w hg (by rw [cellsAt_len, hzs]; omega) (cellsAt_all (intsF_cells hi'))
      refine ⟨goInt l.length, w.setRow g ((zcel R).toList.take (0 + 0) ++ cellsAt w b off (l.length * 2) ++ (zcel R).toList.drop (0 + 0 + (cellsAt w b off (l.length * 2)).length)).toArray, by simp [Builtin.copy_, run_underlying Tryd.underlying31, Builtin.lenOf, sizeOf, typeInfo, hi, hm, hf, hst], ?_⟩
      have hh := setRow_heap w g (zcel R) ((zcel R).toList.take (0 + 0) ++ cellsAt w b off (l.length * 2) ++ (zcel R).toList.drop (0 + 0 + (cellsAt w b off (l.length * 2)).length)).toArray _ _ hg
      have hO : Out (fun k => k = g) w (w.setRow g ((zcel R).toList.take (0 + 0) ++ cellsAt w b off (l.length * 2) ++ (zcel R).toList.drop (0 + 0 + (cellsAt w b off (l.length * 2)).length)).toArray) := ⟨rfl, rfl, rfl, by simp [World.setRow], fun k hk hx => setRow_other w g k _ hx⟩
      have hLim : Lim w (w.setRow g ((zcel R).toList.take (0 + 0) ++ cellsAt w b off (l.length * 2) ++ (zcel R).toList.drop (0 + 0 + (cellsAt w b off (l.length * 2)).length)).toArray) := (Kp.out (S := (· ≠ 34)) hO (fun q t hq ht k => by subst hq; rw [hty] at ht; exact k (Option.some.inj ht).symm)).lim (by decide)
      refine ⟨fun k hk => ?_, ⟨(Array.getElem?_eq_some_iff.1 hh).1, fun j => by unfold World.frozen?; rw [show (World.setRow w g _).heap[(⟨g, j, none⟩ : Addr).block]? = _ from hh]; simp⟩, by unfold typOf; rw [hh], hO⟩
      have cel : ∀ j, (w.setRow g ((zcel R).toList.take (0 + 0) ++ cellsAt w b off (l.length * 2) ++ (zcel R).toList.drop (0 + 0 + (cellsAt w b off (l.length * 2)).length)).toArray).cell? ⟨g, j, none⟩ = (cellsAt w b off (l.length * 2) ++ (zcel R).toList.drop (l.length * 2))[j]? := fun j => by
        rw [cell_of_row _ g j _ _ _ hh]; simp [cellsAt_len]
      by_cases e : k < l.length
      · obtain ⟨nb, q, len, cq, k1, k2, k3⟩ := hi' k e
        refine ⟨nb, q, len, cq, ?_, ?_, ?_⟩
        · rw [cel, Nat.zero_add, List.getElem?_append_left (by rw [cellsAt_len]; omega)]; exact cellsAt_get (by omega) k1
        · rw [cel, Nat.zero_add, List.getElem?_append_left (by rw [cellsAt_len]; omega)]; exact cellsAt_get (by omega) k2
        · show IsInt _ _ ((startN l R).getD k 0)
          rw [startN_lt e]; exact lims_int _ _ _ _ k3 hLim
      · obtain ⟨e1, e2⟩ := zcel_at hk
        refine ⟨false, none, 0, 0, ?_, ?_, ?_⟩
        · rw [cel, Nat.zero_add, List.getElem?_append_right (by rw [cellsAt_len]; omega), cellsAt_len, List.getElem?_drop, show l.length * 2 + (k * 2 - l.length * 2) = k * 2 by omega, Array.getElem?_toList]; exact e1
        · rw [cel, Nat.zero_add, List.getElem?_append_right (by rw [cellsAt_len]; omega), cellsAt_len, List.getElem?_drop, show l.length * 2 + (k * 2 + 1 - l.length * 2) = k * 2 + 1 by omega, Array.getElem?_toList]; exact e2
        · show IsInt _ _ ((startN l R).getD k 0)
          rw [startN_ge (by omega)]; exact isInt_zero _
  obtain ⟨n, w', hr, h1, h2, h3, h4⟩ := key
  refine wpList_plain hgd fun K hK => ?_
  unfold Oper.wp
  simp [execOp, ho, resolve, invoke, builtin, hd, hs, hr, Result.andThen]
  exact hK _ _ (h n w' h1 h2 h3 h4)
end
end Go.Proofs.YtannhpadoooedaaDoor
/- exact: right, Run. -/
namespace Go.Proofs.YtannhpadoooedaaDoor
open Num
open Go.ChangeShapes Go.WideShapes Go.ChangeAt Go.RowKit
set_option linter.unusedVariables false
set_option linter.unusedSimpArgs false
attribute [local go_sem ↓] Go.wp_at_zero Go.wp_at_succ
/-- what right answers -/
def RightE (ins regs : Int) (code : List Ins) (outs : List Int) (n : Int) (w : World) (e : Ending) (w' : World) : Prop :=
  ((¬ ProgOk ins regs code outs ∧ e = .returned (.int .i64 80)) ∨ (ProgOk ins regs code outs ∧ n ≠ ins ∧ e = .returned (.int .i64 5)) ∨ (ProgOk ins regs code outs ∧ n = ins ∧ e = .returned (.int .i64 0))) ∧ Below w.heap.size w w'
set_option maxRecDepth 100000 in
set_option maxHeartbeats 2000000 in
theorem right_c (ins regs : Int) (ca oa : Option Addr) (cc oc : Nat) (code : List Ins) (outs : List Int) (n : Int) (w : World) (hc : InsV w ca cc code) (ho : IntsV w oa oc outs) :
    Calls Tryd.prog 52 #[.agg #[.int .i64 ins, .int .i64 regs, .slice ca code.length cc, .slice oa outs.length oc], .int .i64 n] w (RightE ins regs code outs n w) := by
  have kc := fun W (h : Below w.heap.size w W) => check_c ins regs ca oa cc oc code outs W (hc.keep h) (ho.keep h)
  clear hc ho
  have hB := Below.refl w.heap.size w
  go_enter Tryd.func52, Tryd.ntmps52
  go_wp2_with fail
  refine (kc _ (by repeat (first | exact Below.refl _ _ | exact hB | refine Below.drew ?_ | refine below_drewN ?_ _ | refine bset ?_ (by simp <;> omega) _ | refine bal ?_ _))).mono ?_
  rintro e w1 ⟨r, s, rfl, hp, hb1⟩
  have p0 : w1.cell? ⟨w.heap.size, 0, none⟩ = some (.int .i64 ins) := bkeep hb1 (by first | assumption | exact cell_new (by with_reducible first | rfl | (simp; done) | (simp; omega)) rfl | (repeat (first | assumption | exact cell_new (by with_reducible first | rfl | (simp; done) | (simp; omega)) rfl | refine cell_alloc ?_ _ | refine cell_drew ?_ | refine cell_drewN ?_ _ | refine cell_far ?_ (by simp) _ | (refine cell_far ?_ (by simp <;> omega) _))) | simp [go_sem, *])
  have zp0 := cell_lt p0
  have hB : Below w.heap.size w w1 := bthen (by repeat (first | exact Below.refl _ _ | exact hB | refine Below.drew ?_ | refine below_drewN ?_ _ | refine bset ?_ (by simp <;> omega) _ | refine bal ?_ _)) hb1
  have hz : w.heap.size ≤ w1.heap.size := hB.size
  clear kc
  rcases hp with ⟨hok, rfl, rfl⟩ | ⟨hno, rfl⟩
  · have HOK := Lib.hid hok
    clear hok
    by_cases e : n = ins
    · have HE := Lib.hid e
      have hq : (n != ins) = false := by simpa using e
      clear e
      go_wp2
      go_ret
      exact ⟨.inr (.inr ⟨HOK.out, HE.out, rfl⟩), hB⟩
    · have HE := Lib.hid e
      have hq : (n != ins) = true := by simpa using e
      clear e
      go_wp2
      go_ret
      exact ⟨.inr (.inl ⟨HOK.out, HE.out, rfl⟩), hB⟩
  · have HNO := Lib.hid hno
    clear hno
    go_wp2
    go_ret
    exact ⟨.inl ⟨HNO.out, rfl⟩, hB⟩
/-- run's answer, an int -/
theorem runNRes {code : List Ins} {r : List Int} {rb : Nat} {w : World} {e : Ending} {w' : World} (h : RunNPost code r rb w e w') : (∃ q : Int, e = .returned (.int .i64 q) ∧ ((∃ (m : Nat) (s : List Int), m < code.length ∧ afterN code r m = some s ∧ afterN code r (m + 1) = none ∧ q = m) ∨ (∃ s, afterN code r code.length = some s ∧ q = -1 ∧ IntsF IsInt w' rb 0 r.length (fun j => s.getD j 0) ∧ typOf w' rb = some 34))) ∧ Out (fun k => k = rb) w w' := by
  obtain ⟨h, hO⟩ := h
  refine ⟨?_, hO⟩
  rcases h with ⟨m, s, h1, h2, h3, rfl⟩ | ⟨s, h1, rfl, h2, h3⟩
  · exact ⟨_, rfl, .inl ⟨m, s, h1, h2, h3, rfl⟩⟩
  · exact ⟨_, rfl, .inr ⟨s, h1, rfl, h2, h3⟩⟩
/-- what Run answers -/
def ExRunPost (ins regs : Int) (code : List Ins) (outs : List Int) (l : List Int) (w : World) (e : Ending) (w' : World) : Prop :=
  ((¬ ProgOk ins regs code outs ∧ e = .returned (.tuple #[.slice none 0 0, .int .i64 0, .int .i64 80])) ∨
   (ProgOk ins regs code outs ∧ (l.length : Int) ≠ ins ∧ e = .returned (.tuple #[.slice none 0 0, .int .i64 0, .int .i64 5])) ∨
   (ProgOk ins regs code outs ∧ (l.length : Int) = ins ∧ ∃ (m : Nat) (s : List Int), m < code.length ∧ afterN code (startN l regs.toNat) m = some s ∧ afterN code (startN l regs.toNat) (m + 1) = none ∧ e = .returned (.tuple #[.slice none 0 0, .int .i64 m, .int .i64 20])) ∨
   (ProgOk ins regs code outs ∧ (l.length : Int) = ins ∧ ∃ (s : List Int) (v : Value), afterN code (startN l regs.toNat) code.length = some s ∧ e = .returned (.tuple #[v, .int .i64 0, .int .i64 0]) ∧ OwnF IsInt 34 w w' v outs.length (fun k => (outsN outs s).getD k 0))) ∧ Below w.heap.size w w'
set_option maxRecDepth 100000 in
set_option maxHeartbeats 16000000 in
theorem exRun_c (ins regs : Int) (ca oa : Option Addr) (cc oc : Nat) (code : List Ins) (outs : List Int) (v : Value) (l : List Int) (K : Nat) (w : World) (hc : InsV w ca cc code) (ho : IntsV w oa oc outs) (hv : PRow 0 w v l) (hl : l.length ≤ 1099511627776) (hb : ∀ j, Bd K (l.getD j 0)) (hK : K ≤ 2147483648) :
    Calls Tryd.prog 30 #[.agg #[.int .i64 ins, .int .i64 regs, .slice ca code.length cc, .slice oa outs.length oc], v] w (ExRunPost ins regs code outs l w) := by
  have kr := fun W (h : Below w.heap.size w W) => right_c ins regs ca oa cc oc code outs l.length W (hc.keep h) (ho.keep h)
  have HC := Lib.hid (And.intro hc ho)
  have HV := Lib.hid hv
  have HBD := Lib.hid hb
  obtain ⟨va, vc, rfl, -⟩ := hv
  clear hc ho hb
  have hB := Below.refl w.heap.size w
  go_enter Tryd.func30, Tryd.ntmps30
  go_wp2_with fail
  refine (kr _ (by repeat (first | exact Below.refl _ _ | exact hB | refine Below.drew ?_ | refine below_drewN ?_ _ | refine bset ?_ (by simp <;> omega) _ | refine bal ?_ _))).mono ?_
  rintro e w1 ⟨hp, hb1⟩
  have p0 : w1.cell? ⟨w.heap.size, 0, none⟩ = some (.int .i64 ins) := bkeep hb1 (by first | assumption | exact cell_new (by with_reducible first | rfl | (simp; done) | (simp; omega)) rfl | (repeat (first | assumption | exact cell_new (by with_reducible first | rfl | (simp; done) | (simp; omega)) rfl | refine cell_alloc ?_ _ | refine cell_drew ?_ | refine cell_drewN ?_ _ | refine cell_far ?_ (by simp) _ | (refine cell_far ?_ (by simp <;> omega) _))) | simp [go_sem, *])
  have zp0 := cell_lt p0
  have p1 : w1.cell? ⟨w.heap.size, 1, none⟩ = some (.int .i64 regs) := bkeep hb1 (by first | assumption | exact cell_new (by with_reducible first | rfl | (simp; done) | (simp; omega)) rfl | (repeat (first | assumption | exact cell_new (by with_reducible first | rfl | (simp; done) | (simp; omega)) rfl | refine cell_alloc ?_ _ | refine cell_drew ?_ | refine cell_drewN ?_ _ | refine cell_far ?_ (by simp) _ | (refine cell_far ?_ (by simp <;> omega) _))) | simp [go_sem, *])
  have p2 : w1.cell? ⟨w.heap.size, 2, none⟩ = some (.slice ca code.length cc) := bkeep hb1 (by first | assumption | exact cell_new (by with_reducible first | rfl | (simp; done) | (simp; omega)) rfl | (repeat (first | assumption | exact cell_new (by with_reducible first | rfl | (simp; done) | (simp; omega)) rfl | refine cell_alloc ?_ _ | refine cell_drew ?_ | refine cell_drewN ?_ _ | refine cell_far ?_ (by simp) _ | (refine cell_far ?_ (by simp <;> omega) _))) | simp [go_sem, *])
  have p3 : w1.cell? ⟨w.heap.size, 3, none⟩ = some (.slice oa outs.length oc) := bkeep hb1 (by first | assumption | exact cell_new (by with_reducible first | rfl | (simp; done) | (simp; omega)) rfl | (repeat (first | assumption | exact cell_new (by with_reducible first | rfl | (simp; done) | (simp; omega)) rfl | refine cell_alloc ?_ _ | refine cell_drew ?_ | refine cell_drewN ?_ _ | refine cell_far ?_ (by simp) _ | (refine cell_far ?_ (by simp <;> omega) _))) | simp [go_sem, *])
  have hB : Below w.heap.size w w1 := bthen (by repeat (first | exact Below.refl _ _ | exact hB | refine Below.drew ?_ | refine below_drewN ?_ _ | refine bset ?_ (by simp <;> omega) _ | refine bal ?_ _)) hb1
  have hz : w.heap.size ≤ w1.heap.size := hB.size
  clear kr
  rcases hp with ⟨hno, rfl⟩ | ⟨hok, hne, rfl⟩ | ⟨hok, hle, rfl⟩
  · have HNO := Lib.hid hno
    clear hno
    go_wp2
    go_ret3
    exact ⟨.inl ⟨HNO.out, rfl⟩, hB⟩
  · have HNO := Lib.hid (And.intro hok hne)
    clear hok hne
    go_wp2
    go_ret3
    exact ⟨.inr (.inl ⟨HNO.out.1, HNO.out.2, rfl⟩), hB⟩
  · have HOK := Lib.hid hok
    have HLE := Lib.hid hle
    obtain ⟨R, hR⟩ : ∃ R : Nat, regs = R := ⟨regs.toNat, by have := hok.i1; have := hok.i2; omega⟩
    have hlR : l.length ≤ R := by have := hok.i2; omega
    have hR128 : R ≤ 128 := by have := hok.r1; omega
    clear hok hle
    subst hR
    have hmk := mkInts R (by omega)
    have hw1 : w.heap.size < w1.heap.size := zp0
    go_wp2_with (refine copy_ints (o := ⟨some 25, _, _, _, _, _⟩) (g := w1.heap.size) (R := R) (ad := va) (l := l) (c := vc) (base := 0) rfl rfl rfl rfl (HV.out.keep lims_int (bal hB _)) hlR (MapKept.heap_alloc w1 _).1 ?_)
    intro nn w2 hI2 hF2 hT2 hO2
    have hne : ¬ w.heap.size = w1.heap.size := by omega
    have hO1 : Out (fun k => k = w1.heap.size) w1 w2 := ((Out.refl _ w1).alloc _).trans hO2
    have HP := Lib.hid (show ∀ W, Out (fun k => k = w1.heap.size) w1 W → W.cell? ⟨w.heap.size, 0, none⟩ = some (.int .i64 ins) ∧ W.cell? ⟨w.heap.size, 1, none⟩ = some (.int .i64 (R : Int)) ∧ W.cell? ⟨w.heap.size, 2, none⟩ = some (.slice ca code.length cc) ∧ W.cell? ⟨w.heap.size, 3, none⟩ = some (.slice oa outs.length oc) from fun W h => ⟨okeep h p0 hne, okeep h p1 hne, okeep h p2 hne, okeep h p3 hne⟩)
    have HI2 := Lib.hid (And.intro hI2 (And.intro hF2 hT2))
    have HB1 := Lib.hid hB
    clear hI2 hF2 hT2 hO2 hmk p0 p1 p2 p3
    obtain ⟨p0, p1, p2, p3⟩ := HP.out w2 hO1
    have hzz : w1.heap.size < w2.heap.size := HI2.out.2.1.1
    have HSL := Lib.hid (startN_len hlR)
    have rx := fun W (k : Below w2.heap.size w2 W) => runN_c ins (R : Int) ca oa cc outs.length oc code (startN l R) K w1.heap.size 55 #[] W (HC.out.1.keep ((HB1.out.trans (hO1.to_below (fun q hq _ e => by omega) HB1.out.size)).trans (k.mono (by omega)))) (fun n hn => by rw [HSL.out]; exact ins_of HOK.out hn) HOK.out.c1 (cs_of HOK.out) (by rw [HSL.out]; exact hR128) (by rw [HSL.out]; exact HI2.out.1.keep lims_int k) (HI2.out.2.1.keep k) (typ_keep HI2.out.2.2 k) (fun j => by
      by_cases e : j < l.length
      · rw [startN_lt e]; exact HBD.out j
      · rw [startN_ge (by omega)]; exact bd_zero) hK told_c (ens Tryd.func55 (by kernel_rfl) rfl) (fun b off e hl e2 => by
      rcases HC.out.1 with h0 | ⟨b', off', h1, _, h3⟩
      · rw [h0] at hl; simp at hl
      · rw [e] at h1; cases h1
        have := cell_lt (h3 0 hl).c0
        omega)
    rw [HSL.out] at rx
    have hBc := Below.refl w2.heap.size w2
    go_wp2
    go_region_held3 (fun w' => w'.cell? ⟨w.heap.size, 0, none⟩ = some (.int .i64 ins) ∧ w'.cell? ⟨w.heap.size, 1, none⟩ = some (.int .i64 (R : Int)) ∧ w'.cell? ⟨w.heap.size, 2, none⟩ = some (.slice ca code.length cc) ∧ w'.cell? ⟨w.heap.size, 3, none⟩ = some (.slice oa outs.length oc))
      (first | (refine HP.out _ ?_; refine hO1.below ?_; (repeat (first | exact Below.refl _ _ | exact hBc | refine Below.drew ?_ | refine below_drewN ?_ _ | refine bset ?_ (by simp <;> omega) _ | refine bal ?_ _)); done) | (refine HP.out _ (hO1.trans ?_); (repeat (first | exact hO4 | refine Out.drew ?_ | refine Out.drewN ?_ _)); done) | fail)
      (first
        | (go_at_call 54; refine (numbers_c _).mono ?_; rintro e w3 ⟨rfl, hb3⟩; (have hBd : Below w2.heap.size w2 w3 := bthen (by repeat (first | exact Below.refl _ _ | exact hBc | refine Below.drew ?_ | refine below_drewN ?_ _ | refine bset ?_ (by simp <;> omega) _ | refine bal ?_ _)) hb3; clear hBc; have hBc := hBd; clear hBd))
        | (go_at_call 53; refine (rx _ ?_).mono ?_; (repeat (first | exact Below.refl _ _ | exact hBc | refine Below.drew ?_ | refine below_drewN ?_ _ | refine bset ?_ (by simp <;> omega) _ | refine bal ?_ _)); rintro e w4 hr4; obtain ⟨⟨q, rfl, hres⟩, hO4'⟩ := runNRes hr4; have hO4 : Out (fun k => k = w1.heap.size) w2 w4 := (Out.of_below _ (by repeat (first | exact Below.refl _ _ | exact hBc | refine Below.drew ?_ | refine below_drewN ?_ _ | refine bset ?_ (by simp <;> omega) _ | refine bal ?_ _))).trans hO4'; have HRES := Lib.hid hres; clear hres hr4 hO4')
        | fail)
    all_goals
      have hO14 := hO1.trans hO4
      have hB4 : Below w.heap.size w w4 := HB1.out.trans (hO14.to_below (fun q hq _ e => by omega) HB1.out.size)
      clear rx hBc p0 p1 p2 p3
      rcases HRES.out with ⟨m, s, h1, h2, h3, rfl⟩ | ⟨s, h1, rfl, h2, h3⟩
      · have HH := Lib.hid (And.intro h2 h3)
        clear h2 h3
        go_wp2
        go_ret3
        exact ⟨.inr (.inr (.inl ⟨HOK.out, HLE.out, m, s, h1, by rw [Int.toNat_natCast]; exact HH.out.1, by rw [Int.toNat_natCast]; exact HH.out.2, rfl⟩)), by repeat (first | exact Below.refl _ _ | exact hB4 | refine Below.drew ?_ | refine below_drewN ?_ _ | refine bset ?_ (by simp <;> omega) _ | refine bal ?_ _)⟩
      · have HH := Lib.hid (And.intro h1 h2)
        clear h1 h2 h3
        obtain ⟨p0, p1, p2, p3⟩ := HP.out w4 hO14
        have hsl := (afterN_len HH.out.1).trans HSL.out
        have HL := Lib.hid hsl
        clear hsl
        have hBw := Below.refl w4.heap.size w4
        go_wp2
        refine wp_name fun w5 hW5 => ?_
        have hb45 : Below w4.heap.size w4 w5 := by rw [hW5]; repeat (first | exact Below.refl _ _ | exact hBw | refine Below.drew ?_ | refine below_drewN ?_ _ | refine bset ?_ (by simp <;> omega) _ | refine bal ?_ _)
        clear hW5 p0 p1 p2 p3
        obtain ⟨p0, p1, p2, p3⟩ := HP.out w5 (hO14.below hb45)
        have hB5 := bthen hB4 hb45
        go_loopw [10, 36] (fun v x wr => ∃ k : Nat, k ≤ outs.length ∧ x = .int .i64 k ∧ Hid (OwnF IsInt 34 w5 wr v k (fun i => (outsN outs s).getD i 0))) (fun _ x _ => outs.length - (intOf x).toNat)
        case atStart => exact ⟨0, Nat.zero_le _, rfl, Lib.hid (OwnF.nil _ _ _ (Below.refl _ _))⟩
        case round =>
          obtain ⟨k, hk, rfl, hF⟩ := hrel
          have hbr := hF.out.bel
          have hBr := bthen hB5 hbr
          obtain ⟨fa, fc, hfv⟩ : ∃ a c, _ = Value.slice a k c := by obtain ⟨a, c, h, _⟩ := hF.out.view; exact ⟨a, c, h⟩
          subst hfv
          have hol := HOK.out.o2
          by_cases hlt : k < outs.length
          · have hltI : (k : Int) < (outs.length : Int) := by omega
            obtain ⟨q1, q2⟩ := HOK.out.os k hlt
            rcases HC.out.2 with h0 | ⟨ob, off, rfl, hcap, hcell⟩
            · rw [h0] at hlt; simp at hlt
            have hc := bkeep hBr (hcell k hlt)
            have zob := cell_lt hc
            obtain ⟨r, hr⟩ : ∃ r : Nat, outs.getD k 0 = r := ⟨(outs.getD k 0).toNat, by omega⟩
            rw [hr] at hc q1 q2
            have hrl : r < R := by omega
            have HE := Lib.hid (show (outsN outs s).getD k 0 = s.getD r 0 by
              unfold outsN
              have e : outs[k]? = some (r : Int) := by rw [← hr]; simp [hlt]
              rw [List.getD_eq_getElem?_getD, List.getElem?_map, e]; simp)
            obtain ⟨nx, ax, lx, cx, o0, o1, hi⟩ := (HH.out.2.keep lims_int (bthen hb45 hbr)).at0 (by rw [HSL.out]; exact hrl)
            have zo := cell_lt o0
            have HIX := Lib.hid hi
            have HSN : Hid (∀ j, j < k + 1 → (fun i => if i = k then s.getD r 0 else (outsN outs s).getD i 0) j = (outsN outs s).getD j 0) := Lib.hid (fun j hj => by
              dsimp only; split
              · subst_vars; rw [HE.out]
              · rfl)
            obtain ⟨z, hz⟩ : ∃ z, s.getD r 0 = z := ⟨_, rfl⟩
            rw [hz] at HSN
            have HIX := Lib.hid (show IsInt wr (.agg #[.bool nx, .slice ax lx cx]) z by have := HIX.out; (try dsimp only at this); rwa [hz] at this)
            clear hi hz hcell hr
            go_wp2_with (at_builtin; refine app_num elInt (by decide) lims_int (by rfl) (by rfl) hF.out HIX.out (by rfl) (by rfl) (by omega) ?_)
            intro v' w8 hF8 _ _
            have HF8 := Lib.hid (hF8.congr' HSN.out)
            clear hF8
            go_wp2
            exact ⟨⟨k + 1, by omega, by go_num, HF8⟩, by simp [intOf]; omega⟩
          · obtain rfl : k = outs.length := by omega
            go_wp2
            go_ret3
            exact ⟨.inr (.inr (.inr ⟨HOK.out, HLE.out, s, _, by rw [Int.toNat_natCast]; exact HH.out.1, rfl, OwnF.rebase' hB5 hF.out⟩)), hBr⟩
end Go.Proofs.YtannhpadoooedaaDoor
