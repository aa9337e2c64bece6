/- Texts of this seat, laid together: ExH, ExI, RtD. Each opens with its own remark, which says what it proves, and under which conditions. -/
import Derived.Test.YtdllbdfchloijaaDoorK16
import Derived.Test.YtdllbdfchloijaaDoorK12
import Derived.Test.YtdllbdfchloijaaDoorK02
import Derived.Deep.LoopGhost
import Derived.Test.YtdllbdfchloijaaDoorK13
import Derived.Deep.RegionLaw
set_option linter.unusedVariables false
set_option linter.unusedSimpArgs false
/- exact: run on rows. -/
namespace Go.Proofs.YtdllbdfchloijaaDoor
open Num
open Go.ChangeShapes Go.WideShapes Go.ChangeAt Go.RowKit
set_option linter.unusedVariables false
set_option linter.unusedSimpArgs false
attribute [local go_sem ↓] Go.wp_at_zero Go.wp_at_succ
/-- a function value that is told of each instruction's row, and goes on -/
def FnTR (F : Nat) (caps : Array Value) : Prop :=
  ∀ W v r (k : Int), PRow 0 W v r → Calls Tryd.prog F (#[.int .i64 k, v] ++ caps) W fun e w' => e = .returned (.bool true) ∧ Below W.heap.size W w'
theorem toldR_c : FnTR 49 #[] := fun W v r k hv => by
  obtain ⟨va, vc, rfl, -⟩ := hv
  have hB := Below.refl W.heap.size W
  show Calls Tryd.prog 49 #[.int .i64 k, .slice va r.length vc] W _
  go_enter Tryd.func49, Tryd.ntmps49
  go_wp2
  go_ret
  exact ⟨rfl, by repeat (first | exact Below.refl _ _ | exact hB | refine Below.drew ?_ | refine below_drewN ?_ _ | refine bset ?_ (by simp <;> omega) _ | refine bal ?_ _)⟩
/-- what run answers, on rows -/
def RunRPost (code : List Ins) (g : Grid) (rb : Nat) (w : World) (e : Ending) (w' : World) : Prop :=
  ((∃ (m : Nat) (h : Grid), m < code.length ∧ after code g m = some h ∧ after code g (m + 1) = none ∧ e = .returned (.int .i64 m)) ∨
   (∃ h, after code g code.length = some h ∧ e = .returned (.int .i64 (-1)) ∧ RegsP 0 w' rb h)) ∧ Out (fun k => k = rb) w w'
set_option maxRecDepth 100000 in
set_option maxHeartbeats 16000000 in
theorem runR_c (ins regs : Int) (ca oa : Option Addr) (cc ol oc : Nat) (code : List Ins) (g : Grid) (m K rb F : Nat) (caps : Array Value) (w : World) (hc : InsV w ca cc code) (hcs : ∀ n, n < code.length → InsOk (code.getD n default) g.length) (hcl : code.length ≤ 16384) (hCs : Cs code) (hg128 : g.length ≤ 128)
    (hI : RegsP 0 w rb g) (hR : Rect m g) (hm : m ≤ 1099511627775) (hb : BdG K g) (hK : K ≤ 2147483648) (hft : FnTR F caps) (eF : Enters Tryd.prog F) (hne : ∀ b off, ca = some ⟨b, off, none⟩ → 0 < code.length → b ≠ rb) :
    Calls Tryd.prog 47 #[rowsV, .agg #[.int .i64 ins, .int .i64 regs, .slice ca code.length cc, .slice oa ol oc], .slice (some ⟨rb, 0, none⟩) g.length g.length, .func (.func F) #[] caps] w (RunRPost code g rb w) := by
  have HC := Lib.hid hc
  have HCS := Lib.hid hcs
  have HCs := Lib.hid hCs
  have HBD := Lib.hid (And.intro hb (And.intro hR (fun n (hn : n < code.length) => (show (code.getD n default).a.toNat < g.length by have := (hcs n hn).a0; have := (hcs n hn).a1; omega))))
  have HFT := Lib.hid hft
  have HNE := Lib.hid hne
  have HI := Lib.hid hI
  have zrb := hI.free.1
  clear hc hcs hCs hb hft hI hR hne
  unfold Enters at eF
  have hB := Below.refl w.heap.size w
  unfold rowsV
  obtain ⟨R, hR⟩ : ∃ R, g.length = R := ⟨_, rfl⟩
  rw [hR] at HCS hg128 ⊢
  have HR := Lib.hid hR
  clear hR
  go_enter Tryd.func47, Tryd.ntmps47
  go_wp2
  go_step3
  go_wp2
  go_step3
  go_wp2
  refine wp_name fun w0 hW0 => ?_
  have f0 : w0.cell? ⟨w.heap.size, 0, none⟩ = some (.func (.func 62) #[] #[]) := by rw [hW0]; exact (by first | assumption | exact cell_new (by with_reducible first | rfl | (simp; done) | (simp; omega)) rfl | (repeat (first | assumption | exact cell_new (by with_reducible first | rfl | (simp; done) | (simp; omega)) rfl | refine cell_alloc ?_ _ | refine cell_drew ?_ | refine cell_drewN ?_ _ | refine cell_far ?_ (by simp) _ | (refine cell_far ?_ (by simp <;> omega) _))) | simp [go_sem, *])
  have zf0 := cell_lt f0
  have f1 : w0.cell? ⟨w.heap.size, 1, none⟩ = some (.func (.func 63) #[] #[]) := by rw [hW0]; exact (by first | assumption | exact cell_new (by with_reducible first | rfl | (simp; done) | (simp; omega)) rfl | (repeat (first | assumption | exact cell_new (by with_reducible first | rfl | (simp; done) | (simp; omega)) rfl | refine cell_alloc ?_ _ | refine cell_drew ?_ | refine cell_drewN ?_ _ | refine cell_far ?_ (by simp) _ | (refine cell_far ?_ (by simp <;> omega) _))) | simp [go_sem, *])
  have f2 : w0.cell? ⟨w.heap.size, 2, none⟩ = some (.func (.func 65) #[] #[]) := by rw [hW0]; exact (by first | assumption | exact cell_new (by with_reducible first | rfl | (simp; done) | (simp; omega)) rfl | (repeat (first | assumption | exact cell_new (by with_reducible first | rfl | (simp; done) | (simp; omega)) rfl | refine cell_alloc ?_ _ | refine cell_drew ?_ | refine cell_drewN ?_ _ | refine cell_far ?_ (by simp) _ | (refine cell_far ?_ (by simp <;> omega) _))) | simp [go_sem, *])
  have f3 : w0.cell? ⟨w.heap.size, 3, none⟩ = some (.func (.func 67) #[] #[]) := by rw [hW0]; exact (by first | assumption | exact cell_new (by with_reducible first | rfl | (simp; done) | (simp; omega)) rfl | (repeat (first | assumption | exact cell_new (by with_reducible first | rfl | (simp; done) | (simp; omega)) rfl | refine cell_alloc ?_ _ | refine cell_drew ?_ | refine cell_drewN ?_ _ | refine cell_far ?_ (by simp) _ | (refine cell_far ?_ (by simp <;> omega) _))) | simp [go_sem, *])
  have f4 : w0.cell? ⟨w.heap.size, 4, none⟩ = some (.func (.func 68) #[] #[]) := by rw [hW0]; exact (by first | assumption | exact cell_new (by with_reducible first | rfl | (simp; done) | (simp; omega)) rfl | (repeat (first | assumption | exact cell_new (by with_reducible first | rfl | (simp; done) | (simp; omega)) rfl | refine cell_alloc ?_ _ | refine cell_drew ?_ | refine cell_drewN ?_ _ | refine cell_far ?_ (by simp) _ | (refine cell_far ?_ (by simp <;> omega) _))) | simp [go_sem, *])
  have p2 : w0.cell? ⟨w.heap.size + 1, 2, none⟩ = some (.slice ca code.length cc) := by rw [hW0]; exact (by first | assumption | exact cell_new (by with_reducible first | rfl | (simp; done) | (simp; omega)) rfl | (repeat (first | assumption | exact cell_new (by with_reducible first | rfl | (simp; done) | (simp; omega)) rfl | refine cell_alloc ?_ _ | refine cell_drew ?_ | refine cell_drewN ?_ _ | refine cell_far ?_ (by simp) _ | (refine cell_far ?_ (by simp <;> omega) _))) | simp [go_sem, *])
  have zp2 := cell_lt p2
  have hB : Below w.heap.size w w0 := by rw [hW0]; repeat (first | exact Below.refl _ _ | exact hB | refine Below.drew ?_ | refine below_drewN ?_ _ | refine bset ?_ (by simp <;> omega) _ | refine bal ?_ _)
  have hz : w.heap.size ≤ w0.heap.size := hB.size
  clear hW0
  have HP := Lib.hid (show ∀ W, Out (fun k => k = rb) w0 W → W.cell? ⟨w.heap.size, 0, none⟩ = some (.func (.func 62) #[] #[]) ∧ W.cell? ⟨w.heap.size, 1, none⟩ = some (.func (.func 63) #[] #[]) ∧ W.cell? ⟨w.heap.size, 2, none⟩ = some (.func (.func 65) #[] #[]) ∧ W.cell? ⟨w.heap.size, 3, none⟩ = some (.func (.func 67) #[] #[]) ∧ W.cell? ⟨w.heap.size, 4, none⟩ = some (.func (.func 68) #[] #[]) ∧ W.cell? ⟨w.heap.size + 1, 2, none⟩ = some (.slice ca code.length cc) from fun W h =>
    have hne : ¬ w.heap.size = rb := by omega
    have hne1 : ¬ w.heap.size + 1 = rb := by omega
    ⟨okeep h f0 hne, okeep h f1 hne, okeep h f2 hne, okeep h f3 hne, okeep h f4 hne, okeep h p2 hne1⟩)
  have hO0 := Out.of_below (fun k => k = rb) hB
  clear f0 f1 f2 f3 f4 p2
  go_loopw [16] (fun x wr => ∃ n : Nat, n ≤ code.length ∧ x = .int .i64 n ∧ Out (fun k => k = rb) w0 wr ∧ Hid (∃ h, after code g n = some h ∧ RegsP 0 wr rb h)) (fun x _ => code.length - (intOf x).toNat)
  case atStart => exact ⟨0, Nat.zero_le _, rfl, Out.refl _ _, Lib.hid ⟨g, rfl, HI.out.keep hB⟩⟩
  case round =>
    obtain ⟨n, hn, rfl, hOr, hrel⟩ := hrel
    obtain ⟨h, hs, hI⟩ := hrel.out
    have HS := Lib.hid (And.intro hs hI)
    have hOw : Out (fun k => k = rb) w wr := hO0.trans hOr
    have hsl := (after_len hs).trans HR.out
    have HRC := Lib.hid (after_rect HBD.out.2.1 rfl HBD.out.2.2 hn hs)
    have HBN := Lib.hid (after_bd HBD.out.1 HCs.out hn hs)
    have hz0 : w0.heap.size ≤ wr.heap.size := hOr.size
    obtain ⟨f0, f1, f2, f3, f4, p2⟩ := HP.out wr hOr
    have HSL := Lib.hid hsl
    clear hs hI hrel hsl
    by_cases hlt : n < code.length
    · have hltI : (n : Int) < (code.length : Int) := by omega
      rcases HC.out with h0 | ⟨cb, co, rfl, hcap, hcell⟩
      · rw [h0] at hlt; simp at hlt
      have hcb : ¬ cb = rb := HNE.out cb co rfl (by omega)
      obtain ⟨q0, q1, q2, q3, q4⟩ := hcell n hlt
      replace q0 := okeep hOw q0 hcb
      replace q1 := okeep hOw q1 hcb
      replace q2 := okeep hOw q2 hcb
      replace q3 := okeep hOw q3 hcb
      replace q4 := okeep hOw q4 hcb
      have zq := cell_lt q0
      have zf := cell_lt f0
      have zp := cell_lt p2
      have hio := HCS.out n hlt
      obtain ⟨uz, huz, -⟩ := HS.out.2.cell (code.getD n default).a.toNat (by have := hio.a0; have := hio.a1; rw [HSL.out]; omega)
      have dc := fun W (k : Below wr.heap.size wr W) => doR_c (code.getD n default) (K + 65 * n) rb m h uz W (HS.out.2.keep k) (bkeep k huz) (by rw [HSL.out]; exact hio) HRC.out hm HBN.out (by omega) (by rw [HSL.out]; exact hg128)
      rw [HSL.out] at dc
      have HNX := Lib.hid (fun (h : Grid) (e : after code g n = some h) => (show after code g (n + 1) = (stepR (code.getD n default) (h.getD (code.getD n default).a.toNat []) (h.getD (code.getD n default).b.toNat [])).map fun r => h.set (code.getD n default).to.toNat r by rw [after, e]; rfl))
      have t0 := hio.t0
      have t1 := hio.t1
      obtain ⟨Z, hZ⟩ : ∃ Z, stepR (code.getD n default) (h.getD (code.getD n default).a.toNat []) (h.getD (code.getD n default).b.toNat []) = Z := ⟨_, rfl⟩
      rw [hZ] at dc
      have HZ := Lib.hid hZ
      obtain ⟨i, hi⟩ : ∃ i, i = code.getD n default := ⟨_, rfl⟩
      rw [← hi] at q0 q1 q2 q3 q4 dc t0 t1
      have HIN := Lib.hid hi
      clear hi hcell hio hZ huz
      obtain ⟨op, it, ia, ib, ic⟩ := i
      dsimp only at q0 q1 q2 q3 q4 t0 t1
      obtain ⟨nt, rfl⟩ : ∃ x : Nat, it = x := ⟨it.toNat, by omega⟩
      have t1' : nt < R := by omega
      unfold Ins.v rowsV at dc
      dsimp only at dc
      unfold AnsL at dc
      have hBw := Below.refl wr.heap.size wr
      cases Z with
      | none =>
        dsimp only at dc
        go_wp2_with fail
        refine (dc _ (by repeat (first | exact Below.refl _ _ | exact hBw | refine Below.drew ?_ | refine below_drewN ?_ _ | refine bset ?_ (by simp <;> omega) _ | refine bal ?_ _))).mono ?_
        rintro e w5 ⟨⟨a5, n5, c5, rfl⟩, hb5⟩
        have hB5 : Below wr.heap.size wr w5 := bthen (by repeat (first | exact Below.refl _ _ | exact hBw | refine Below.drew ?_ | refine below_drewN ?_ _ | refine bset ?_ (by simp <;> omega) _ | refine bal ?_ _)) hb5
        clear dc
        go_wp2
        go_ret
        refine ⟨.inl ⟨n, h, hlt, HS.out.1, ?_, rfl⟩, hOw.below (by repeat (first | exact Below.refl _ _ | exact hB5 | refine Below.drew ?_ | refine below_drewN ?_ _ | refine bset ?_ (by simp <;> omega) _ | refine bal ?_ _))⟩
        rw [HNX.out h HS.out.1, HZ.out]; rfl
      | some z =>
        dsimp only at dc
        go_wp2_with fail
        refine (dc _ (by repeat (first | exact Below.refl _ _ | exact hBw | refine Below.drew ?_ | refine below_drewN ?_ _ | refine bset ?_ (by simp <;> omega) _ | refine bal ?_ _))).mono ?_
        rintro e w5 ⟨⟨v5, rfl, hi5, -⟩, hb5⟩
        have i1 : w5.cell? ⟨wr.heap.size, 1, none⟩ = some (.int .i64 nt) := bkeep hb5 (by first | exact cell_new rfl rfl | exact cell_drew (cell_new rfl rfl))
        have hB5 : Below wr.heap.size wr w5 := bthen (by repeat (first | exact Below.refl _ _ | exact hBw | refine Below.drew ?_ | refine below_drewN ?_ _ | refine bset ?_ (by simp <;> omega) _ | refine bal ?_ _)) hb5
        have HV5 := Lib.hid hi5
        obtain ⟨a5, c5, rfl, -⟩ := hi5
        clear dc
        have hR5 := HS.out.2.keep hB5
        have hnt : nt < h.length := by rw [HSL.out]; exact t1'
        obtain ⟨u0, o0, -⟩ := hR5.cell nt hnt
        have of0 := hR5.free.2 nt
        have zo := cell_lt o0
        have zi := cell_lt i1
        have HR5 := Lib.hid hR5
        clear hR5
        have hN : Hid (∀ W, W = w5.setCell ⟨rb, nt, none⟩ (.slice a5 z.length c5) → RegsP 0 W rb (h.set nt z) ∧ PRow 0 W (.slice a5 z.length c5) z ∧ Out (fun k => k = rb) w0 W) := Lib.hid fun W hW => by
          subst hW
          have hk : Kp (· ≠ 27) w5 (w5.setCell ⟨rb, nt, none⟩ (.slice a5 z.length c5)) := (Kp.refl _ w5).set (fun t ht => by rw [HR5.out.ty] at ht; cases ht; exact fun k => k rfl) _
          exact ⟨HR5.out.step HV5.out hnt, HV5.out.kp lims_int hk (by decide) (by decide), (hOr.below hB5).set (fun _ => rfl) _⟩
        have HST := Lib.hid (show after code g (n + 1) = some (h.set nt z) by rw [HNX.out h HS.out.1, HZ.out, ← HIN.out, Option.map_some]; dsimp only; rw [Int.toNat_natCast])
        go_upto_region 8 with (fail)
        refine wp_name fun w6 hW6 => ?_
        have HN6 := Lib.hid (hN.out w6 hW6)
        have hB6 := Below.refl w6.heap.size w6
        clear hW6 hN o0 of0 i1 HR5 HV5 q0 q1 q2 q3 q4 f0 f1 f2 f3 f4 p2
        go_wp2_with (go_at_fn F; refine (HFT.out _ _ z _ (HN6.out.2.1.keep lims_int ?_)).mono ?_; (repeat (first | exact Below.refl _ _ | exact hB6 | refine Below.drew ?_ | refine below_drewN ?_ _ | refine bset ?_ (by simp <;> omega) _ | refine bal ?_ _)); rintro e w7 ⟨rfl, hb7⟩)
        have hB7 : Below w6.heap.size w6 w7 := bthen (by repeat (first | exact Below.refl _ _ | exact hB6 | refine Below.drew ?_ | refine below_drewN ?_ _ | refine bset ?_ (by simp <;> omega) _ | refine bal ?_ _)) hb7
        have HNEXT := Lib.hid (show ∃ h', after code g (n + 1) = some h' ∧ RegsP 0 w7 rb h' from ⟨_, HST.out, HN6.out.1.keep hB7⟩)
        have hO7 : Out (fun k => k = rb) w0 w7 := HN6.out.2.2.below hB7
        clear HN6
        go_wp2
        exact ⟨⟨n + 1, by omega, by go_num, hO7, HNEXT⟩, by simp [intOf]; omega⟩
    · obtain rfl : n = code.length := by omega
      go_wp2
      go_ret
      exact ⟨.inr ⟨h, HS.out.1, rfl, HS.out.2⟩, hOw⟩
end Go.Proofs.YtdllbdfchloijaaDoor

/- exact: laid: the registers over a grid. -/
namespace Go.Proofs.YtdllbdfchloijaaDoor
open Num
open Go.ChangeShapes Go.WideShapes Go.ChangeAt Go.RowKit
set_option linter.unusedVariables false
set_option linter.unusedSimpArgs false
attribute [local go_sem ↓] Go.wp_at_zero Go.wp_at_succ
set_option maxRecDepth 100000 in
theorem copy_key {w : World} {g R c base : Nat} {ad : Option Addr} {l : List Int} (ty : TypeId) (hv : PRow base w (.slice ad l.length c) l) (hl : l.length ≤ R) (hg : w.heap[g]? = some (Obj.cells (zcel R) 31 (0, 0))) :
    ∃ n w', (Builtin.copy_ #[27, 27] ty #[.slice (some ⟨g, 0, none⟩) R R, .slice ad l.length c]).run Tryd.prog w = .ok n w' ∧ IntsF IsInt w' g 0 R (fun j => (startN l R).getD j 0) ∧ Free w' g ∧ typOf w' g = some 31 ∧ Out (fun k => k = g) w w' := by
  obtain ⟨i0, z0, hi, hz0, hz1, hz2, hz3⟩ := elInt.info
  obtain ⟨a', c', he, h2, h3, h4⟩ := hv
  obtain ⟨rfl, -, rfl⟩ := Value.slice.inj he
  have hty : typOf w g = some 31 := by unfold typOf; rw [hg]
  have hzs : (zcel R).size = R * 2 := by simp [zcel, size_madeCells]
  have hm : Nat.min l.length R = l.length := Nat.min_eq_left hl
  rcases h4 with rfl | ⟨b, off, rfl, hb, ht, hi'⟩
  · refine ⟨goInt 0, w, ?_, ?_, ?_, hty, Out.refl _ _⟩
    · cases ad with
      | none => simp [Builtin.copy_, run_underlying Tryd.underlying27, Builtin.lenOf, Builtin.firstCells, sizeOf, typeInfo, hi, storeCells]
      | some q => simp [Builtin.copy_, run_underlying Tryd.underlying27, Builtin.lenOf, Builtin.firstCells, sizeOf, typeInfo, hi, storeCells, loadCells, loadCellsFrom]
    · intro k hk
      obtain ⟨e1, e2⟩ := zcel_at hk
      refine ⟨false, none, 0, 0, by simp [World.cell?, hg, e1], by simp [World.cell?, hg, e2], ?_⟩
      show IsInt w _ ((startN [] R).getD k 0)
      rw [startN_ge (by simp)]; exact isInt_zero _
    · exact ⟨(Array.getElem?_eq_some_iff.1 hg).1, fun j => by simp [World.frozen?, hg]⟩
  · have hl2 : (cellsAt w b off (l.length * 2)).length = l.length * i0.size := by rw [cellsAt_len, hz1]
    have hsrc : ∀ j u, (cellsAt w b off (l.length * 2))[j]? = some u → w.cell? ((⟨b, off, none⟩ : Addr).add j) = some u := cellsAt_at (Below.refl _ _) fun j hj => by obtain ⟨v, hv, _⟩ := intsF_cells hi' j hj; exact ⟨v, hv⟩
    have hf := run_firstCells_some (P := Tryd.prog) w i0.size l.length ⟨b, off, none⟩ l.length c _ hl2 hsrc
    have hst := run_storeCells_at Tryd.prog g 0 _ (cellsAt w b off (l.length * 2)) 0 (zcel R) w hg (by rw [cellsAt_len, hzs]; omega) (cellsAt_all (intsF_cells hi'))
    refine ⟨goInt l.length, w.setRow g ((zcel R).toList.take (0 + 0) ++ cellsAt w b off (l.length * 2) ++ (zcel R).toList.drop (0 + 0 + (cellsAt w b off (l.length * 2)).length)).toArray, by simp [Builtin.copy_, run_underlying Tryd.underlying27, Builtin.lenOf, sizeOf, typeInfo, hi, hm, hf, hst], ?_⟩
    have hh := setRow_heap w g (zcel R) ((zcel R).toList.take (0 + 0) ++ cellsAt w b off (l.length * 2) ++ (zcel R).toList.drop (0 + 0 + (cellsAt w b off (l.length * 2)).length)).toArray _ _ hg
    have hO : Out (fun k => k = g) w (w.setRow g ((zcel R).toList.take (0 + 0) ++ cellsAt w b off (l.length * 2) ++ (zcel R).toList.drop (0 + 0 + (cellsAt w b off (l.length * 2)).length)).toArray) := ⟨rfl, rfl, rfl, by simp [World.setRow], fun k hk hx => setRow_other w g k _ hx⟩
    have hLim : Lim w (w.setRow g ((zcel R).toList.take (0 + 0) ++ cellsAt w b off (l.length * 2) ++ (zcel R).toList.drop (0 + 0 + (cellsAt w b off (l.length * 2)).length)).toArray) := (Kp.out (S := (· ≠ 31)) hO (fun q t hq ht k => by subst hq; rw [hty] at ht; exact k (Option.some.inj ht).symm)).lim (by decide)
    refine ⟨fun k hk => ?_, ⟨(Array.getElem?_eq_some_iff.1 hh).1, fun j => by unfold World.frozen?; rw [show (World.setRow w g _).heap[(⟨g, j, none⟩ : Addr).block]? = _ from hh]; simp⟩, by unfold typOf; rw [hh], hO⟩
    have cel : ∀ j, (w.setRow g ((zcel R).toList.take (0 + 0) ++ cellsAt w b off (l.length * 2) ++ (zcel R).toList.drop (0 + 0 + (cellsAt w b off (l.length * 2)).length)).toArray).cell? ⟨g, j, none⟩ = (cellsAt w b off (l.length * 2) ++ (zcel R).toList.drop (l.length * 2))[j]? := fun j => by
      rw [cell_of_row _ g j _ _ _ hh]; simp [cellsAt_len]
    by_cases e : k < l.length
    · obtain ⟨nb, q, len, cq, k1, k2, k3⟩ := hi' k e
      refine ⟨nb, q, len, cq, ?_, ?_, ?_⟩
      · rw [cel, Nat.zero_add, List.getElem?_append_left (by rw [cellsAt_len]; omega)]; exact cellsAt_get (by omega) k1
      · rw [cel, Nat.zero_add, List.getElem?_append_left (by rw [cellsAt_len]; omega)]; exact cellsAt_get (by omega) k2
      · show IsInt _ _ ((startN l R).getD k 0)
        rw [startN_lt e]; exact lims_int _ _ _ _ k3 hLim
    · obtain ⟨e1, e2⟩ := zcel_at hk
      refine ⟨false, none, 0, 0, ?_, ?_, ?_⟩
      · rw [cel, Nat.zero_add, List.getElem?_append_right (by rw [cellsAt_len]; omega), cellsAt_len, List.getElem?_drop, show l.length * 2 + (k * 2 - l.length * 2) = k * 2 by omega, Array.getElem?_toList]; exact e1
      · rw [cel, Nat.zero_add, List.getElem?_append_right (by rw [cellsAt_len]; omega), cellsAt_len, List.getElem?_drop, show l.length * 2 + (k * 2 + 1 - l.length * 2) = k * 2 + 1 by omega, Array.getElem?_toList]; exact e2
      · show IsInt _ _ ((startN l R).getD k 0)
        rw [startN_ge (by omega)]; exact isInt_zero _

/-- copy of a row into a new one, as a step of a region that draws its order -/
theorem step_copy_ints {ops : Array Oper} {o : Oper} {a : Act} {w : World} {K : Act → World → Prop} {Q : Exit → Act → World → Prop} {E : Prop} {d x : Operand} (hgd : o.guard = none) (ho : o.op = .call { callee := .builtin .copy, args := #[d, x], argTypes := #[27, 27] }) {g R c base : Nat} {ad : Option Addr} {l : List Int}
    (hd : a.eval d = .slice (some ⟨g, 0, none⟩) R R) (hs : a.eval x = .slice ad l.length c) (hv : PRow base w (.slice ad l.length c) l) (hl : l.length ≤ R) (hg : w.heap[g]? = some (Obj.cells (zcel R) 31 (0, 0)))
    (h : ∀ n w', IntsF IsInt w' g 0 R (fun j => (startN l R).getD j 0) → Free w' g → typOf w' g = some 31 → Out (fun k => k = g) w w' → K (a.put o.dst n) w') : if Region.wanted o (yielded ops a.tmps) = true then Oper.wp Tryd.prog o a w K Q else E := by
  have hw : Region.wanted o (yielded ops a.tmps) = true := by simp [Region.wanted, hgd]
  rw [if_pos hw]
  obtain ⟨n, w', hr, h1, h2, h3, h4⟩ := copy_key o.type hv hl hg
  unfold Oper.wp
  simp [execOp, ho, resolve, invoke, builtin, hd, hs, hr, Result.andThen]
  exact h n w' h1 h2 h3 h4
theorem heap_fresh {w : World} {o : Obj} {n : Nat} (h : n = w.heap.size) : (w.alloc o).heap[n]? = some o := by subst h; exact (MapKept.heap_alloc w o).1
theorem typ_out {X : Nat → Prop} {a b : World} {g : Nat} {t : TypeId} (h : typOf a g = some t) (ho : Out X a b) (hx : ¬ X g) : typOf b g = some t := by
  rw [typ_of_block (w := a) (ho.block g (typ_lt h) hx)]; exact h
/-- registers, of which the first k are laid -/
def upG (S : Grid) (k : Nat) : Grid := S.take k ++ List.replicate (S.length - k) []
theorem upG_len {S : Grid} {k : Nat} (h : k ≤ S.length) : (upG S k).length = S.length := by simp [upG]; omega
theorem upG_all (S : Grid) : upG S S.length = S := by simp [upG]
theorem upG_set {S : Grid} {k : Nat} (h : k < S.length) : (upG S k).set k (S.getD k []) = upG S (k + 1) := by
  unfold upG
  apply List.ext_getElem?
  intro j
  rw [List.getElem?_set]
  have hl : (S.take k ++ List.replicate (S.length - k) ([] : List Int)).length = S.length := by simp; omega
  have hgk : S.getD k [] = S[k] := by simp [h]
  by_cases e : k = j
  · subst e
    rw [if_pos rfl, if_pos (by rw [hl]; exact h), List.getElem?_append_left (by simp; omega), List.getElem?_take_of_lt (by omega), hgk]
    exact (List.getElem?_eq_getElem h).symm
  · rw [if_neg e]
    by_cases e2 : j < k
    · rw [List.getElem?_append_left (by simp; omega), List.getElem?_append_left (by simp; omega), List.getElem?_take_of_lt e2, List.getElem?_take_of_lt (by omega)]
    · rw [List.getElem?_append_right (by simp; omega), List.getElem?_append_right (by simp; omega)]
      simp only [List.length_take, List.getElem?_replicate]
      have h1 : min k S.length = k := by omega
      have h2 : min (k + 1) S.length = k + 1 := by omega
      rw [h1, h2]
      by_cases e3 : j < S.length
      · rw [if_pos (by omega), if_pos (by omega)]
      · rw [if_neg (by omega), if_neg (by omega)]
theorem startG_lo {g : Grid} {R m k : Nat} (h : k < g.length) : (startG g R m).getD k [] = g.getD k [] := by
  unfold startG; simp [List.getD_eq_getElem?_getD, List.getElem?_append_left h]
theorem startG_hi {g : Grid} {R m k : Nat} (h : g.length ≤ k) (h2 : k < R) : (startG g R m).getD k [] = List.replicate m 0 := by
  unfold startG; rw [List.getD_eq_getElem?_getD, List.getElem?_append_right h, List.getElem?_replicate, if_pos (by omega)]; rfl
/-- one register is set, to a row in a new block -/
theorem RegsP.put {w W : World} {base rb k : Nat} {G : Grid} {u : Value} {r : List Int} (h : RegsP base w rb G) (ho : Out (fun q => q = rb ∨ q = w.heap.size) w W) (hf : Free W rb) (ht : typOf W rb = some 27)
    (hc : ∀ j, j ≠ k → ∀ v, w.cell? ⟨rb, j, none⟩ = some v → W.cell? ⟨rb, j, none⟩ = some v) (hk : W.cell? ⟨rb, k, none⟩ = some u) (hu : PRow base W u r) : RegsP base W rb (G.set k r) := by
  have hkp : Kp (· ≠ 27) w W := Kp.out ho (fun q t hq ht' hs => by
    rcases hq with rfl | rfl
    · rw [h.ty] at ht'; exact hs (Option.some.inj ht').symm
    · exact absurd (typ_lt ht') (by omega))
  refine ⟨hf, ht, fun j hj => ?_⟩
  rw [List.length_set] at hj
  by_cases e : k = j
  · subst e
    exact ⟨u, hk, by rw [show (G.set k r).getD k [] = r by simp [hj]]; exact hu⟩
  · obtain ⟨v, hv, hr⟩ := h.cell j hj
    exact ⟨v, hc j (Ne.symm e) v hv, by rw [show (G.set k r).getD j [] = G.getD j [] by simp [List.getElem?_set_ne e]]; exact hr.kp lims_int hkp (by decide) (by decide)⟩
/-- what laid answers -/
def LaidPost (ins regs : Int) (code : List Ins) (outs : List Int) (g : Grid) (w : World) (e : Ending) (w' : World) : Prop :=
  ((¬ ProgOk ins regs code outs ∧ e = .returned (.tuple #[.slice none 0 0, .int .i64 80])) ∨
   (ProgOk ins regs code outs ∧ ¬ FitsG ins g ∧ e = .returned (.tuple #[.slice none 0 0, .int .i64 5])) ∨
   (ProgOk ins regs code outs ∧ FitsG ins g ∧ ∃ rb, w.heap.size ≤ rb ∧ e = .returned (.tuple #[.slice (some ⟨rb, 0, none⟩) regs.toNat regs.toNat, .int .i64 0]) ∧ RegsP w.heap.size w' rb (startG g regs.toNat (g.getD 0 []).length))) ∧ Below w.heap.size w w'
theorem mkRegs (n : Nat) (hn : n ≤ 1099511627776) (w : World) : (Instr.makeSlice 75 (.int .i64 (n : Int)) (.int .i64 (n : Int))).run Tryd.prog w = .ok (.slice (some ⟨w.heap.size, 0, none⟩) n n) (w.alloc (.cells (Array.replicate n (.slice none 0 0)) 27)) := by
  obtain ⟨i0, hi, hz0, hz1, hz2⟩ := info_parts infoRow
  have e : madeCells (Value.slice none 0 0).cells ((n : Int).toNat * 1) = Array.replicate n (.slice none 0 0) := by
    apply Array.ext
    · simp [size_madeCells]
    · intro i h1 h2
      simp [madeCells, Value.cells, Nat.mod_one]
  rw [run_make w _ _ i0 _ Tryd.underlying75 hi hz0 .i64 .i64 n n (by omega) (by omega) (by rw [hz2]; omega) (by omega), hz1, e]
  rfl
theorem regs_new (base : Nat) (w : World) (S : Grid) : RegsP base (w.alloc (.cells (Array.replicate S.length (.slice none 0 0)) 27)) w.heap.size (upG S 0) :=
  ⟨Free.new rfl, typ_fresh rfl, fun k hk => ⟨.slice none 0 0, cell_new rfl (by rw [upG_len (Nat.zero_le _)] at hk; simp [hk]), by
    rw [upG_len (Nat.zero_le _)] at hk
    rw [show (upG S 0).getD k [] = [] by simp [upG, hk]]
    exact IsRow.nil _ _ _ _⟩⟩
theorem zero_row (w : World) {base b m : Nat} (hbb : base ≤ b) (hm : m ≤ 1099511627776) (h : w.heap[b]? = some (Obj.cells (zcel m) 31 (0, 0))) : PRow base w (.slice (some ⟨b, 0, none⟩) m m) (List.replicate m 0) := by
  refine ⟨some ⟨b, 0, none⟩, m, by rw [List.length_replicate], by rw [List.length_replicate]; exact Nat.le_refl _, by unfold maxLen; omega, .inr ⟨b, 0, rfl, hbb, by unfold typOf; rw [h], fun k hk => ?_⟩⟩
  rw [List.length_replicate] at hk
  obtain ⟨h1, h2⟩ := zcel_at hk
  refine ⟨false, none, 0, 0, by rw [Nat.zero_add]; simp [World.cell?, h, h1], by rw [Nat.zero_add]; simp [World.cell?, h, h2], ?_⟩
  dsimp only
  rw [show (List.replicate m (0 : Int)).getD k 0 = 0 by simp [hk]]
  exact isInt_zero _
theorem startN_self {l : List Int} : startN l l.length = l := by simp [startN]
theorem row_of_ints {w : World} {base b : Nat} {l : List Int} (hbb : base ≤ b) (hl : l.length ≤ 1099511627776) (h : IntsF IsInt w b 0 l.length (fun j => (startN l l.length).getD j 0)) (ht : typOf w b = some 31) : PRow base w (.slice (some ⟨b, 0, none⟩) l.length l.length) l := by
  rw [startN_self] at h
  exact ⟨_, _, rfl, Nat.le_refl _, by unfold maxLen; omega, .inr ⟨b, 0, rfl, hbb, ht, h⟩⟩
set_option maxRecDepth 100000 in
set_option maxHeartbeats 16000000 in
theorem laid_c (ins regs : Int) (ca oa : Option Addr) (cc oc : Nat) (code : List Ins) (outs : List Int) (vg : Value) (g : Grid) (w : World) (hc : InsV w ca cc code) (ho : IntsV w oa oc outs) (hg : GridV w vg g) (hm0 : (g.getD 0 []).length ≤ 1099511627776) :
    Calls Tryd.prog 46 #[.agg #[.int .i64 ins, .int .i64 regs, .slice ca code.length cc, .slice oa outs.length oc], vg] w (LaidPost ins regs code outs g w) := by
  have kr := fun W (h : Below w.heap.size w W) => right_c ins regs ca oa cc oc code outs g.length W (hc.keep h) (ho.keep h)
  clear hc ho
  obtain ⟨ga, gc, rfl, hgc, hv⟩ := hg.view
  have HV := Lib.hid hv
  clear hg hv
  have hB := Below.refl w.heap.size w
  go_enter Tryd.func46, Tryd.ntmps46
  go_wp2_with fail
  refine (kr _ (by repeat (first | exact Below.refl _ _ | exact hB | refine Below.drew ?_ | refine below_drewN ?_ _ | refine bset ?_ (by simp <;> omega) _ | refine bal ?_ _))).mono ?_
  rintro e w1 ⟨hp, hb1⟩
  have p1 : w1.cell? ⟨w.heap.size, 1, none⟩ = some (.int .i64 regs) := bkc hb1
  have zp1 := cell_lt p1
  have hB : Below w.heap.size w w1 := bthen (by repeat (first | exact Below.refl _ _ | exact hB | refine Below.drew ?_ | refine below_drewN ?_ _ | refine bset ?_ (by simp <;> omega) _ | refine bal ?_ _)) hb1
  have hz : w.heap.size ≤ w1.heap.size := hB.size
  clear kr
  rcases hp with ⟨hno, rfl⟩ | ⟨hok, hne, rfl⟩ | ⟨hok, hle, rfl⟩
  · have HNO := Lib.hid hno
    clear hno
    go_wp2
    go_ret2
    exact ⟨.inl ⟨HNO.out, rfl⟩, hB⟩
  · have HNO := Lib.hid (And.intro hok hne)
    clear hok hne
    go_wp2
    go_ret2
    exact ⟨.inr (.inl ⟨HNO.out.1, fun f => HNO.out.2 f.len, rfl⟩), hB⟩
  · have HOK := Lib.hid hok
    have HLE := Lib.hid hle
    have h0 : 0 < g.length := by have := hok.i1; omega
    obtain ⟨R, hR⟩ : ∃ R : Nat, regs = R := ⟨regs.toNat, by have := hok.i1; have := hok.i2; omega⟩
    have hgR : g.length ≤ R := by have := hok.i2; omega
    have hR128 : R ≤ 128 := by have := hok.r1; omega
    clear hok hle
    subst hR
    obtain ⟨gb, go, u0, rfl, hu0, hr0⟩ := HV.out 0 h0
    obtain ⟨a0, x0, rfl, -⟩ := hr0
    rw [Nat.add_zero] at hu0
    have zgb : gb < w.heap.size := cell_lt hu0
    have hu := bkeep hB hu0
    have hg0 : (g[0]'h0) = g.getD 0 [] := by simp [h0]
    rw [hg0] at hu
    obtain ⟨m, hm⟩ : ∃ m, (g.getD 0 []).length = m := ⟨_, rfl⟩
    rw [hm] at hu hm0
    have HM := Lib.hid hm
    clear hm hu0 hg0
    have hgp : (0 : Int) < (g.length : Int) := by omega
    have hmk := mkRegs R (by omega)
    have hmi := mkInts m hm0
    have HSL := Lib.hid (startG_len (n := m) hgR)
    go_wp2
    refine wp_name fun w2 hW2 => ?_
    have HR2 : Hid (RegsP w.heap.size w2 w1.heap.size (upG (startG g R m) 0)) := Lib.hid (by
      have := regs_new w.heap.size w1 (startG g R m)
      rw [HSL.out] at this
      rw [hW2]; exact this)
    have hb12 : Below w1.heap.size w1 w2 := by rw [hW2]; exact bal (Below.refl _ _) _
    clear hW2 hmk
    have hsz1 : w.heap.size < w1.heap.size := zp1
    have hsz0 : w.heap.size ≤ w1.heap.size := by omega
    clear hu
    go_loopw [26] (fun x wr => ∃ k : Nat, k ≤ R ∧ x = .int .i64 k ∧ Below w1.heap.size w1 wr ∧ Hid (RegsP w.heap.size wr w1.heap.size (upG (startG g R m) k)) ∧ Hid (∀ j, j < k → j < g.length → (g.getD j []).length = m) ∧ Hid (0 < k → m ≤ 4096)) (fun x _ => R - (intOf x).toNat)
    case atStart => exact ⟨0, Nat.zero_le _, rfl, hb12, HR2, Lib.hid fun j hj => by omega, Lib.hid fun h => by omega⟩
    case round =>
      obtain ⟨k, hk, rfl, hb1r, hR, hJ, hM4⟩ := hrel
      have hBr : Below w.heap.size w wr := hB.trans (hb1r.mono hsz0)
      by_cases hlt : k < R
      · have hltI : (k : Int) < (R : Int) := by omega
        obtain ⟨uo, o0, -⟩ := hR.out.cell k (by rw [upG_len (by rw [HSL.out]; omega), HSL.out]; exact hlt)
        have of0 := hR.out.free.2 k
        have zo := cell_lt o0
        have hRo := Lib.hid (fun j v (h : wr.cell? ⟨w1.heap.size, j, none⟩ = some v) => h)
        have HSET := Lib.hid (upG_set (S := startG g R m) (k := k) (by rw [HSL.out]; exact hlt))
        go_upto_region 10 with (fail)
        refine wp_name fun w3 hW3 => ?_
        have hne : w1.heap.size ≠ wr.heap.size := by omega
        have h3a : Hid (Out (fun q => q = w1.heap.size) wr w3) := Lib.hid (by rw [hW3]; exact ((Out.refl _ wr).set (fun _ => show w1.heap.size = w1.heap.size from rfl) _).alloc _)
        have h3b : Hid (w3.heap[wr.heap.size]? = some (Obj.cells (zcel m) 31 (0, 0))) := Lib.hid (by rw [hW3]; exact heap_fresh (by simp))
        have h3c : Hid (∀ j, j ≠ k → ∀ v, wr.cell? ⟨w1.heap.size, j, none⟩ = some v → w3.cell? ⟨w1.heap.size, j, none⟩ = some v) := Lib.hid (fun j hj v hv => by rw [hW3]; exact cell_alloc (cell_far hv (fun e => hj (by injection e with _ e2; exact e2.symm)) _) _)
        have y0 : w3.cell? ⟨w1.heap.size, k, none⟩ = some (.slice (some ⟨wr.heap.size, 0, none⟩) m m) := by rw [hW3]; exact cell_alloc (cell_here o0 _) _
        have h3d : Hid (Free w3 w1.heap.size ∧ typOf w3 w1.heap.size = some 27) := Lib.hid (by
          rw [hW3]
          exact ⟨(hR.out.free.set _ _).keep (bal (Below.refl _ _) _), typ_keep (by rw [typ_set]; exact hR.out.ty) (bal (Below.refl _ _) _)⟩)
        have h3e : wr.heap.size < w3.heap.size := by rw [hW3]; simp
        clear hW3 o0 of0 uo
        have hb13 : Below w1.heap.size w1 w3 := hb1r.trans (h3a.out.to_below (fun q hq _ e => by omega) hb1r.size)
        have hB3 : Below w.heap.size w w3 := hB.trans (hb13.mono hsz0)
        by_cases hkg : k < g.length
        · have hkgI : (k : Int) < (g.length : Int) := by omega
          obtain ⟨gb', go', u, he, hu, hrow⟩ := HV.out k hkg
          cases he
          have hgk : (g[k]'hkg) = g.getD k [] := by simp [hkg]
          rw [hgk] at hrow
          obtain ⟨l, hl⟩ : ∃ l, g.getD k [] = l := ⟨_, rfl⟩
          rw [hl] at hrow
          have HL := Lib.hid hl
          have hrow3 := Lib.hid (hrow.keep lims_int hB3)
          obtain ⟨ra, rc, rfl, -⟩ := hrow
          have hu3 := bkeep hB3 hu
          clear hu hl hgk
          by_cases hlm : l.length = m
          · have hlmI : ((l.length : Int) != (m : Int)) = false := by rw [hlm]; simp
            have hlmN : (l.length != m) = false := by rw [hlm]; simp
            by_cases hm4 : m ≤ 4096
            · have hm4I : decide ((4096 : Int) < (m : Int)) = false := by simp; omega
              have hm4N : decide (4096 < m) = false := by simp; omega
              have HLM := Lib.hid hlm
              subst hlm
              clear hlmI hlmN
              go_wp2
              go_region_law (refine step_copy_ints (g := wr.heap.size) (R := l.length) (ad := ra) (l := l) (c := rc) (base := 0) rfl rfl rfl rfl (hrow3.out.keep lims_int (Below.refl _ _).drew) (Nat.le_refl _) (show w3.drew.heap[wr.heap.size]? = _ from h3b.out) ?_; intro n4 w4 hI4 hF4 hT4 hO4')
              all_goals
                have hO4 : Out (fun k => k = wr.heap.size) w3 w4 := (Out.of_below _ (Below.refl _ _).drew).trans hO4'
                clear hO4'
                have HP4 := Lib.hid (RegsP.put (k := k) hR.out ((h3a.out.mono fun _ _ h => Or.inl h).then hO4 fun i _ h => Or.inr h)
                  (h3d.out.1.out hO4 hne) (typ_out h3d.out.2 hO4 hne) (fun j hj v hv => okeep hO4 (h3c.out j hj v hv) hne) (okeep hO4 y0 hne) (row_of_ints hBr.size hm0 hI4 hT4))
                have eS : (upG (startG g R l.length) k).set k l = upG (startG g R l.length) (k + 1) := by
                  have e := HSET.out
                  rwa [show (startG g R l.length).getD k [] = l by rw [startG_lo hkg, HL.out]] at e
                rw [eS] at HP4
                clear eS
                clear hI4 hF4 hT4
                have hb14 : Below w1.heap.size w1 w4 := hb13.trans (hO4.to_below (fun q hq _ e => by omega) hb13.size)
                have hJ' : Hid (∀ j, j < k + 1 → j < g.length → (g.getD j []).length = l.length) := Lib.hid fun j h1 h2 => by
                  by_cases e : j = k
                  · subst e; rw [HL.out]
                  · exact hJ.out j (by omega) h2
                have hm5 : Hid (0 < k + 1 → l.length ≤ 4096) := Lib.hid fun _ => hm4
                go_wp2
                exact ⟨⟨k + 1, by omega, by go_num, hb14, HP4, hJ', hm5⟩, by simp [intOf]; omega⟩
            · have hm4I : decide ((4096 : Int) < (m : Int)) = true := by simp; omega
              have hm4N : decide (4096 < m) = true := by simp; omega
              have HNF := Lib.hid (show ¬ FitsG ins g from fun f => by have := f.m; rw [HM.out] at this; exact hm4 this)
              go_wp2
              go_ret2
              exact ⟨.inr (.inl ⟨HOK.out, HNF.out, rfl⟩), hB3⟩
          · have hlmI : ((l.length : Int) != (m : Int)) = true := by simp; omega
            have hlmN : (l.length != m) = true := by simp; omega
            have HNF := Lib.hid (show ¬ FitsG ins g from fun f => by have := f.rect k hkg; rw [HL.out, HM.out] at this; exact hlm this)
            go_wp2
            go_ret2
            exact ⟨.inr (.inl ⟨HOK.out, HNF.out, rfl⟩), hB3⟩
        · have hkgI : ¬ (k : Int) < (g.length : Int) := by omega
          have HN := Lib.hid (show RegsP w.heap.size w3 w1.heap.size (upG (startG g R m) (k + 1)) by
            rw [← HSET.out, startG_hi (by omega) hlt]
            exact RegsP.put hR.out (h3a.out.mono fun _ _ h => Or.inl h) h3d.out.1 h3d.out.2 h3c.out y0 (zero_row _ hBr.size hm0 h3b.out))
          have hm5 : Hid (0 < k + 1 → m ≤ 4096) := Lib.hid fun _ => hM4.out (by omega)
          have hJ' : Hid (∀ j, j < k + 1 → j < g.length → (g.getD j []).length = m) := Lib.hid fun j h1 h2 => hJ.out j (by omega) h2
          go_wp2
          exact ⟨⟨k + 1, by omega, by go_num, hb13, HN, hJ', hm5⟩, by simp [intOf]; omega⟩
      · obtain rfl : k = R := by omega
        have HFI := Lib.hid (show FitsG ins g from ⟨HLE.out, by rw [HM.out]; exact fun j hj => hJ.out j (by omega) hj, by rw [HM.out]; exact hM4.out (by omega)⟩)
        have HRR := Lib.hid (show RegsP w.heap.size wr w1.heap.size (startG g k m) by
          have := hR.out
          have e := upG_all (startG g k m)
          rw [HSL.out] at e
          rw [e] at this
          exact this)
        go_wp2
        go_ret2
        exact ⟨.inr (.inr ⟨HOK.out, HFI.out, w1.heap.size, hsz0, rfl, by rw [HM.out]; exact HRR.out⟩), hBr⟩
end Go.Proofs.YtdllbdfchloijaaDoor

/- The reference: Follow: a program over a grid. -/
namespace Go.Proofs.YtdllbdfchloijaaDoor
open Num
open Go.ChangeShapes Go.WideShapes Go.ChangeAt Go.RowKit
set_option linter.unusedVariables false
set_option linter.unusedSimpArgs false
attribute [local go_sem ↓] Go.wp_at_zero Go.wp_at_succ
/-- the row that the n-th instruction sets -/
def toldR (code : List Ins) (g : Grid) (n : Nat) : List Int :=
  match after code g n with
  | some h => (stepR (code.getD n default) (h.getD (code.getD n default).a.toNat []) (h.getD (code.getD n default).b.toNat [])).getD []
  | none => []
/-- the rows that the first n instructions set -/
def told (code : List Ins) (g : Grid) (n : Nat) : Grid := (List.range n).map (toldR code g)
/-- a list of the call's own (from base on), built by append; base is free -/
def OwnLB {α : Type} (T : TypeId) (Pr : World → Value → α → Prop) (base : Nat) (w : World) (v : Value) (g : List α) : Prop :=
  ∃ xs, w.ownsRow base T 1 v g.length xs ∧ ∀ k (hk : k < g.length), ∃ u, xs[k]? = some u ∧ Pr w u g[k]
section
variable {α : Type} {S S' : TypeId → Prop} {T : TypeId} {Pr : World → Value → α → Prop} {base : Nat} {w0 wr w' : World} {v u : Value} {g : List α} {y : α}
theorem OwnLB.nil (T : TypeId) (Pr : World → Value → α → Prop) (base : Nat) (w : World) : OwnLB T Pr base w (.slice none 0 0) [] := ⟨[], World.ownsRow_nil _ _ _ _, fun k hk => absurd hk (by simp)⟩
theorem OwnLB.keep (hP : Prs S Pr) (h : OwnLB T Pr base wr v g) (hb : Below wr.heap.size wr w') : OwnLB T Pr base w' v g := by
  obtain ⟨xs, h1, h2⟩ := h
  refine ⟨xs, owns_kp (S := fun _ => True) h1 (Kp.of_below _ hb) trivial, fun k hk => ?_⟩
  obtain ⟨u, hu, hr⟩ := h2 k hk
  exact ⟨u, hu, hP.kp hr (Kp.of_below _ hb)⟩
theorem OwnLB.ex (h : OwnLB T Pr base wr v g) : ∃ a c, v = .slice a g.length c := by
  obtain ⟨xs, ⟨_, h1⟩, _⟩ := h
  rcases h1 with ⟨rfl, h0⟩ | ⟨b, cap, cur, rfl, _⟩
  · exact ⟨none, 0, by rw [h0]⟩
  · exact ⟨_, _, rfl⟩
theorem OwnLB.set (hP : Prs S Pr) (h : OwnLB T Pr base wr v g) {p : Addr} {t : TypeId} (ht : typOf wr p.block = some t) (h2 : ¬ S t) (hp : p.block < base) (y : Value) : OwnLB T Pr base (wr.setCell p y) v g := by
  obtain ⟨xs, hO, hx⟩ := h
  have hk : Kp S wr (wr.setCell p y) := (Kp.refl _ _).set (fun t' ht' => by rw [ht] at ht'; cases ht'; exact h2) y
  refine ⟨xs, ownsRow_setCell_other hO ?_ y, fun k hk' => ?_⟩
  · intro hb
    have := (hO.lt _ hb).1
    omega
  · obtain ⟨u, hu, hr⟩ := hx k hk'
    exact ⟨u, hu, hP.kp hr hk⟩
end
section
variable {α : Type} {P : Program} {TT T : TypeId} {bytes : Nat} {S : TypeId → Prop} {Pr : World → Value → α → Prop} {ops : Array Oper} {o : Oper} {a : Act} {Q : Exit → Act → World → Prop} {base : Nat} {wr : World} {v u : Value} {g : List α} {y : α} {s x : Operand} {cc gb : Nat}
end
end Go.Proofs.YtdllbdfchloijaaDoor

