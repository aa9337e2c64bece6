/- Texts of this seat, laid together: RvF, RpC. Each opens with its own remark, which says what it proves, and under which conditions. -/
import Derived.Test.YtannhpadoooedaaGreatDoorH05
import Derived.Test.YtannhpadoooedaaGreatDoorH06
import Derived.Test.YtannhpadoooedaaGreatDoorH07
import Derived.Test.YtannhpadoooedaaGreatDoorG37
import Derived.Test.YtannhpadoooedaaGreatDoorG34
import Derived.Test.YtannhpadoooedaaGreatDoorG09
import Derived.Deep.DeepCutAuto
set_option linter.unusedVariables false
set_option linter.unusedSimpArgs false
/- The reference's machine: Run. -/
namespace Go.Proofs.YtannhpadoooedaaGreatDoor
open Num
open Go.ChangeShapes Go.WideShapes Go.ChangeAt Go.RowKit
set_option linter.unusedVariables false
set_option linter.unusedSimpArgs false
attribute [local go_sem ↓] Go.wp_at_zero Go.wp_at_succ
/-- one step of the reference's registers: one of them is set -/
theorem RegsR.step {rb nt : Nat} {w : World} {g : Grid} {v : Value} {r : List Int} (h : RegsR w rb g) (hv : RRow 0 w v r) (ht : nt < g.length) : RegsR (w.setCell ⟨rb, nt, none⟩ v) rb (g.set nt r) := by
  have hk : Kp (· ≠ 89) w (w.setCell ⟨rb, nt, none⟩ v) := (Kp.refl _ w).set (fun t ht => by rw [h.ty] at ht; cases ht; exact fun k => k rfl) _
  refine ⟨h.free.set _ _, by rw [typ_set]; exact h.ty, fun k hk' => ?_⟩
  rw [List.length_set] at hk'
  by_cases e : nt = k
  · subst e
    obtain ⟨u, hu, _⟩ := h.cell nt hk'
    refine ⟨v, cell_here hu _, ?_⟩
    have : (g.set nt r).getD nt [] = r := by simp [hk']
    rw [this]
    exact hv.kp lims_ref hk (by decide) (by decide)
  · obtain ⟨u, hu, hr⟩ := h.cell k hk'
    refine ⟨u, cell_far hu (fun e2 => e (by cases e2; rfl)) _, ?_⟩
    have : (g.set nt r).getD k [] = g.getD k [] := by simp [List.getElem?_set_ne e]
    rw [this]
    exact hr.kp lims_ref hk (by decide) (by decide)
/-- what the reference's Run answers -/
def RRunPost (ins regs : Int) (code : List Ins) (outs : List Int) (g : Grid) (w : World) (e : Ending) (w' : World) : Prop :=
  ((¬ ProgOk ins regs code outs ∧ e = .returned (.tuple #[.slice none 0 0, .int .i64 0, .int .i64 80])) ∨
   (ProgOk ins regs code outs ∧ ¬ FitsG ins g ∧ e = .returned (.tuple #[.slice none 0 0, .int .i64 0, .int .i64 5])) ∨
   (ProgOk ins regs code outs ∧ FitsG ins g ∧ ∃ (k : Nat) (h : Grid), k < code.length ∧ after code (startG g regs.toNat (g.getD 0 []).length) k = some h ∧ after code (startG g regs.toNat (g.getD 0 []).length) (k + 1) = none ∧ e = .returned (.tuple #[.slice none 0 0, .int .i64 k, .int .i64 20])) ∨
   (ProgOk ins regs code outs ∧ FitsG ins g ∧ ∃ (h : Grid) (v : Value), after code (startG g regs.toNat (g.getD 0 []).length) code.length = some h ∧ e = .returned (.tuple #[v, .int .i64 code.length, .int .i64 0]) ∧ OwnL 89 (RRow 0) w w' v (outsG outs h))) ∧ Below w.heap.size w w'
set_option maxRecDepth 100000 in
set_option maxHeartbeats 16000000 in
theorem rrun_c (ins regs : Int) (ca oa : Option Addr) (cc oc : Nat) (code : List Ins) (outs : List Int) (vg : Value) (g : Grid) (K : Nat) (w : World) (hc : InsV w ca cc code) (ho : IntsV w oa oc outs) (hg : IsL 89 (RowR 0) 0 w vg g)
    (h3 : g.length ≤ 4398046511104) (hK : BdG K g) (hK2 : K ≤ 2147483648) :
    Calls Tryz.prog 24 #[.agg #[.int .i64 ins, .int .i64 regs, .slice ca code.length cc, .slice oa outs.length oc], vg] w (RRunPost ins regs code outs g w) := by
  have rc := fun W (h : Below w.heap.size w W) => rright_c ins regs ca oa cc oc code outs W (hc.keep h) (ho.keep h)
  have fc := fun W (h : Below w.heap.size w W) => rfits_c ins regs ca oa code.length cc outs.length oc vg g W ((hg.keep (prs_rowO lims_ref _ _) h).mono fun u x hr => hr.row) h3
  have HGI := Lib.hid hg
  have HC := Lib.hid (And.intro hc ho)
  have HK := Lib.hid hK
  have hvg : ∃ a c, vg = .slice a g.length c := by obtain ⟨a, c, h, _⟩ := hg; exact ⟨a, c, h⟩
  obtain ⟨ga, gc, rfl⟩ := hvg
  clear hc ho hg h3 hK
  have hB := Below.refl w.heap.size w
  go_enter Tryz.func24, Tryz.ntmps24
  go_wp2_with fail
  refine (rc _ (by repeat (first | exact Below.refl _ _ | exact hB | refine Below.drew ?_ | refine below_drewN ?_ _ | refine bset ?_ (by simp <;> omega) _ | refine bal ?_ _))).mono ?_
  rintro e w1 ⟨b1, rfl, hr1, hb1⟩
  have p0 : w1.cell? ⟨w.heap.size, 0, none⟩ = some (.int .i64 ins) := bkeep hb1 (by first | assumption | exact cell_new (by with_reducible first | rfl | (simp; done) | (simp; omega)) rfl | (repeat (first | assumption | exact cell_new (by with_reducible first | rfl | (simp; done) | (simp; omega)) rfl | refine cell_alloc ?_ _ | refine cell_drew ?_ | refine cell_drewN ?_ _ | refine cell_far ?_ (by simp) _ | (refine cell_far ?_ (by simp <;> omega) _))) | simp [go_sem, *])
  have zp0 := cell_lt p0
  have p1 : w1.cell? ⟨w.heap.size, 1, none⟩ = some (.int .i64 regs) := bkeep hb1 (by first | assumption | exact cell_new (by with_reducible first | rfl | (simp; done) | (simp; omega)) rfl | (repeat (first | assumption | exact cell_new (by with_reducible first | rfl | (simp; done) | (simp; omega)) rfl | refine cell_alloc ?_ _ | refine cell_drew ?_ | refine cell_drewN ?_ _ | refine cell_far ?_ (by simp) _ | (refine cell_far ?_ (by simp <;> omega) _))) | simp [go_sem, *])
  have p2 : w1.cell? ⟨w.heap.size, 2, none⟩ = some (.slice ca code.length cc) := bkeep hb1 (by first | assumption | exact cell_new (by with_reducible first | rfl | (simp; done) | (simp; omega)) rfl | (repeat (first | assumption | exact cell_new (by with_reducible first | rfl | (simp; done) | (simp; omega)) rfl | refine cell_alloc ?_ _ | refine cell_drew ?_ | refine cell_drewN ?_ _ | refine cell_far ?_ (by simp) _ | (refine cell_far ?_ (by simp <;> omega) _))) | simp [go_sem, *])
  have p3 : w1.cell? ⟨w.heap.size, 3, none⟩ = some (.slice oa outs.length oc) := bkeep hb1 (by first | assumption | exact cell_new (by with_reducible first | rfl | (simp; done) | (simp; omega)) rfl | (repeat (first | assumption | exact cell_new (by with_reducible first | rfl | (simp; done) | (simp; omega)) rfl | refine cell_alloc ?_ _ | refine cell_drew ?_ | refine cell_drewN ?_ _ | refine cell_far ?_ (by simp) _ | (refine cell_far ?_ (by simp <;> omega) _))) | simp [go_sem, *])
  have hB : Below w.heap.size w w1 := bthen (by repeat (first | exact Below.refl _ _ | exact hB | refine Below.drew ?_ | refine below_drewN ?_ _ | refine bset ?_ (by simp <;> omega) _ | refine bal ?_ _)) hb1
  have hz : w.heap.size ≤ w1.heap.size := hB.size
  have HR1 := Lib.hid hr1
  clear rc hr1
  cases b1 with
  | false =>
    have HNO := Lib.hid (show ¬ ProgOk ins regs code outs from fun h => by have := HR1.out.2 h; cases this)
    go_wp2
    go_ret3
    exact ⟨.inl ⟨HNO.out, rfl⟩, hB⟩
  | true =>
    have HOK := Lib.hid (HR1.out.1 rfl)
    clear HR1
    go_wp2_with fail
    refine (fc _ (by repeat (first | exact Below.refl _ _ | exact hB | refine Below.drew ?_ | refine below_drewN ?_ _ | refine bset ?_ (by simp <;> omega) _ | refine bal ?_ _))).mono ?_
    rintro e w2 ⟨b2, rfl, hr2, hb2⟩
    have p0 : w2.cell? ⟨w.heap.size, 0, none⟩ = some (.int .i64 ins) := bkeep hb2 (by first | assumption | exact cell_new (by with_reducible first | rfl | (simp; done) | (simp; omega)) rfl | (repeat (first | assumption | exact cell_new (by with_reducible first | rfl | (simp; done) | (simp; omega)) rfl | refine cell_alloc ?_ _ | refine cell_drew ?_ | refine cell_drewN ?_ _ | refine cell_far ?_ (by simp) _ | (refine cell_far ?_ (by simp <;> omega) _))) | simp [go_sem, *])
    have zp0 := cell_lt p0
    have p1 : w2.cell? ⟨w.heap.size, 1, none⟩ = some (.int .i64 regs) := bkeep hb2 (by first | assumption | exact cell_new (by with_reducible first | rfl | (simp; done) | (simp; omega)) rfl | (repeat (first | assumption | exact cell_new (by with_reducible first | rfl | (simp; done) | (simp; omega)) rfl | refine cell_alloc ?_ _ | refine cell_drew ?_ | refine cell_drewN ?_ _ | refine cell_far ?_ (by simp) _ | (refine cell_far ?_ (by simp <;> omega) _))) | simp [go_sem, *])
    have p2 : w2.cell? ⟨w.heap.size, 2, none⟩ = some (.slice ca code.length cc) := bkeep hb2 (by first | assumption | exact cell_new (by with_reducible first | rfl | (simp; done) | (simp; omega)) rfl | (repeat (first | assumption | exact cell_new (by with_reducible first | rfl | (simp; done) | (simp; omega)) rfl | refine cell_alloc ?_ _ | refine cell_drew ?_ | refine cell_drewN ?_ _ | refine cell_far ?_ (by simp) _ | (refine cell_far ?_ (by simp <;> omega) _))) | simp [go_sem, *])
    have p3 : w2.cell? ⟨w.heap.size, 3, none⟩ = some (.slice oa outs.length oc) := bkeep hb2 (by first | assumption | exact cell_new (by with_reducible first | rfl | (simp; done) | (simp; omega)) rfl | (repeat (first | assumption | exact cell_new (by with_reducible first | rfl | (simp; done) | (simp; omega)) rfl | refine cell_alloc ?_ _ | refine cell_drew ?_ | refine cell_drewN ?_ _ | refine cell_far ?_ (by simp) _ | (refine cell_far ?_ (by simp <;> omega) _))) | simp [go_sem, *])
    have hB : Below w.heap.size w w2 := bthen (by repeat (first | exact Below.refl _ _ | exact hB | refine Below.drew ?_ | refine below_drewN ?_ _ | refine bset ?_ (by simp <;> omega) _ | refine bal ?_ _)) hb2
    have hz : w.heap.size ≤ w2.heap.size := hB.size
    have HR2 := Lib.hid hr2
    clear fc hr2
    cases b2 with
    | false =>
      have HNO := Lib.hid (show ¬ FitsG ins g from fun h => by have := HR2.out.2 h; cases this)
      go_wp2
      go_ret3
      exact ⟨.inr (.inl ⟨HOK.out, HNO.out, rfl⟩), hB⟩
    | true =>
      have HFIT := Lib.hid (HR2.out.1 rfl)
      clear HR2
      have h0 : 0 < g.length := by have := HFIT.out.len; have := HOK.out.i1; omega
      have hg0 : g.length ≤ regs.toNat := by have := HFIT.out.len; have := HOK.out.i2; omega
      obtain ⟨R, hR⟩ : ∃ R : Nat, regs = R := ⟨regs.toNat, by have := HOK.out.i1; have := HOK.out.i2; omega⟩
      subst hR
      rw [Int.toNat_natCast] at hg0
      have hR128 : R ≤ 128 := by have := HOK.out.r1; omega
      have hm := HFIT.out.m
      have HRE := Lib.hid (startG_rect (regs := R) HFIT.out.rect)
      have HL := Lib.hid (startG_len (n := (g.getD 0 []).length) hg0)
      have HBD := Lib.hid (startG_bd (regs := R) (n := (g.getD 0 []).length) HK.out)
      obtain ⟨m, hmE⟩ : ∃ m, (g.getD 0 []).length = m := ⟨_, rfl⟩
      have HME := Lib.hid hmE
      have sc := fun W (h : Below w.heap.size w W) => rstart_c ins R ca oa code.length cc outs.length oc (.slice ga g.length gc) g m W (HGI.out.keep (prs_rowO lims_ref _ _) h) h0 hg0 hR128 (by rw [← HME.out]; exact HFIT.out.rect) (by rw [← HME.out]; exact hm)
      rw [hmE] at hm HRE HL HBD
      obtain ⟨G, hG⟩ : ∃ G, startG g R m = G := ⟨_, rfl⟩
      rw [hG] at HRE HL HBD sc
      have HG := Lib.hid hG
      have hcl := HOK.out.c1
      clear hG hmE h0 hg0
      go_wp2_with fail
      refine (sc _ (by repeat (first | exact Below.refl _ _ | exact hB | refine Below.drew ?_ | refine below_drewN ?_ _ | refine bset ?_ (by simp <;> omega) _ | refine bal ?_ _))).mono ?_
      rintro e w3 ⟨v3, rfl, hO3⟩
      have hb3 := hO3.bel
      have zw2 := zp0
      have p0 : w3.cell? ⟨w.heap.size, 0, none⟩ = some (.int .i64 ins) := bkeep hb3 (by first | assumption | exact cell_new (by with_reducible first | rfl | (simp; done) | (simp; omega)) rfl | (repeat (first | assumption | exact cell_new (by with_reducible first | rfl | (simp; done) | (simp; omega)) rfl | refine cell_alloc ?_ _ | refine cell_drew ?_ | refine cell_drewN ?_ _ | refine cell_far ?_ (by simp) _ | (refine cell_far ?_ (by simp <;> omega) _))) | simp [go_sem, *])
      have zp0 := cell_lt p0
      have p1 : w3.cell? ⟨w.heap.size, 1, none⟩ = some (.int .i64 (R : Int)) := bkeep hb3 (by first | assumption | exact cell_new (by with_reducible first | rfl | (simp; done) | (simp; omega)) rfl | (repeat (first | assumption | exact cell_new (by with_reducible first | rfl | (simp; done) | (simp; omega)) rfl | refine cell_alloc ?_ _ | refine cell_drew ?_ | refine cell_drewN ?_ _ | refine cell_far ?_ (by simp) _ | (refine cell_far ?_ (by simp <;> omega) _))) | simp [go_sem, *])
      have p2 : w3.cell? ⟨w.heap.size, 2, none⟩ = some (.slice ca code.length cc) := bkeep hb3 (by first | assumption | exact cell_new (by with_reducible first | rfl | (simp; done) | (simp; omega)) rfl | (repeat (first | assumption | exact cell_new (by with_reducible first | rfl | (simp; done) | (simp; omega)) rfl | refine cell_alloc ?_ _ | refine cell_drew ?_ | refine cell_drewN ?_ _ | refine cell_far ?_ (by simp) _ | (refine cell_far ?_ (by simp <;> omega) _))) | simp [go_sem, *])
      have p3 : w3.cell? ⟨w.heap.size, 3, none⟩ = some (.slice oa outs.length oc) := bkeep hb3 (by first | assumption | exact cell_new (by with_reducible first | rfl | (simp; done) | (simp; omega)) rfl | (repeat (first | assumption | exact cell_new (by with_reducible first | rfl | (simp; done) | (simp; omega)) rfl | refine cell_alloc ?_ _ | refine cell_drew ?_ | refine cell_drewN ?_ _ | refine cell_far ?_ (by simp) _ | (refine cell_far ?_ (by simp <;> omega) _))) | simp [go_sem, *])
      have hB : Below w.heap.size w w3 := bthen (by repeat (first | exact Below.refl _ _ | exact hB | refine Below.drew ?_ | refine below_drewN ?_ _ | refine bset ?_ (by simp <;> omega) _ | refine bal ?_ _)) hb3
      have hz : w.heap.size ≤ w3.heap.size := hB.size
      have hGl : 0 < G.length := by rw [HL.out]; have := HOK.out.i1; have := HOK.out.i2; omega
      obtain ⟨rb, rc, rfl, hrb, hrc, hrc2, hfr, hty, hcell⟩ := hO3.blk hGl
      have HRR := Lib.hid (show RegsR w3 rb G from ⟨hfr, hty, fun k hk => by obtain ⟨u, hu, hr⟩ := hcell k hk; exact ⟨u, hu, by rw [show G.getD k [] = G[k] by simp [hk]]; exact hr.row.rebase (Nat.zero_le _)⟩⟩)
      have hrw : w.heap.size < rb := Nat.lt_of_lt_of_le zw2 hrb
      rw [HL.out] at hrc ⊢
      clear sc hO3 hfr hty hcell hGl
      have HP := Lib.hid (show ∀ W, Out (fun k => k = rb) w3 W → W.cell? ⟨w.heap.size, 0, none⟩ = some (.int .i64 ins) ∧ W.cell? ⟨w.heap.size, 1, none⟩ = some (.int .i64 (R : Int)) ∧ W.cell? ⟨w.heap.size, 2, none⟩ = some (.slice ca code.length cc) ∧ W.cell? ⟨w.heap.size, 3, none⟩ = some (.slice oa outs.length oc) from fun W h =>
        have hne : ¬ w.heap.size = rb := by omega
        ⟨okeep h p0 hne, okeep h p1 hne, okeep h p2 hne, okeep h p3 hne⟩)
      clear p0 p1 p2 p3 hb1 hb2 hb3
      have HBW := Lib.hid hB
      obtain ⟨p0, p1, p2, p3⟩ := HP.out w3 (Out.refl _ _)
      go_wp2
      clear p0 p1 p2 p3
      go_loopw [8] (fun x wr => ∃ n : Nat, n ≤ code.length ∧ x = .int .i64 n ∧ Out (fun k => k = rb) w3 wr ∧ Hid (∃ h, after code G n = some h ∧ RegsR wr rb h)) (fun x _ => code.length - (intOf x).toNat)
      case atStart => exact ⟨0, Nat.zero_le _, rfl, Out.refl _ _, Lib.hid ⟨G, rfl, HRR.out⟩⟩
      case round =>
        obtain ⟨n, hn, rfl, hOr, hrel⟩ := hrel
        obtain ⟨h, hh, hM⟩ := hrel.out
        have HH := Lib.hid (And.intro hh hM)
        have hBr : Below w.heap.size w wr := hB.trans (hOr.to_below (fun k hk _ e => by omega) hB.size)
        have hrect := after_rect HRE.out HL.out (fun q hq => by have := (ins_of HOK.out hq).a1; have := (ins_of HOK.out hq).a0; omega) hn hh
        have hlen := (after_len hh).trans HL.out
        have hbd := after_bd HBD.out (cs_of HOK.out) hn hh
        have HGO := Lib.hid (And.intro hrect (And.intro hlen hbd))
        have hBw := Below.refl wr.heap.size wr
        obtain ⟨p0, p1, p2, p3⟩ := HP.out wr hOr
        have zp := cell_lt p0
        clear hh hrect hlen hbd
        by_cases hlt : n < code.length
        · have hltI : (n : Int) < (code.length : Int) := by omega
          rcases HC.out.1 with h0 | ⟨cb, co, rfl, hcap, hcell⟩
          · rw [h0] at hlt; simp at hlt
          obtain ⟨q0, q1, q2, q3, q4⟩ := (hcell n hlt).keep hBr
          have zq := cell_lt q0
          have sc := fun W (k : Below wr.heap.size wr W) => rstep_c (code.getD n default) rb rc h m (K + 65 * n) W (HH.out.2.keep k) (by rw [HGO.out.2.1]; exact ins_of HOK.out hlt) HGO.out.1 hm HGO.out.2.2 (by omega) (by rw [HGO.out.2.1]; exact hrc)
          have hio := ins_of HOK.out hlt
          have t0 := hio.t0
          have t1 := hio.t1
          rw [Int.toNat_natCast] at t1
          have HNX := Lib.hid (fun (h : Grid) (e : after code G n = some h) => after_succ e)
          obtain ⟨S, hS⟩ : ∃ S, stepR (code.getD n default) (h.getD (code.getD n default).a.toNat []) (h.getD (code.getD n default).b.toNat []) = S := ⟨_, rfl⟩
          rw [hS] at sc
          have HS := Lib.hid hS
          rw [HGO.out.2.1] at sc
          obtain ⟨i, hi⟩ : ∃ i, i = code.getD n default := ⟨_, rfl⟩
          rw [← hi] at q0 q1 q2 q3 q4 sc t0 t1
          have HI := Lib.hid hi
          clear hi hcell hio hM hS
          obtain ⟨op, it, ia, ib, ic⟩ := i
          dsimp only at q0 q1 q2 q3 q4 t0 t1
          obtain ⟨nt, rfl⟩ : ∃ x : Nat, it = x := ⟨it.toNat, by omega⟩
          unfold Ins.v at sc
          dsimp only at sc
          unfold RStep at sc
          cases S with
          | none =>
            dsimp only at sc
            go_wp2_with fail
            refine (sc _ (by repeat (first | exact Below.refl _ _ | exact hBw | refine Below.drew ?_ | refine below_drewN ?_ _ | refine bset ?_ (by simp <;> omega) _ | refine bal ?_ _))).mono ?_
            rintro e w5 ⟨rfl, hb5⟩
            have hB5 := bthen hBr hb5
            clear sc
            go_wp2
            go_ret3
            refine ⟨.inr (.inr (.inl ⟨HOK.out, HFIT.out, n, h, hlt, ?_, ?_, rfl⟩)), by repeat (first | exact Below.refl _ _ | exact hB5 | refine Below.drew ?_ | refine below_drewN ?_ _ | refine bset ?_ (by simp <;> omega) _ | refine bal ?_ _)⟩
            · rw [Int.toNat_natCast, HME.out, HG.out]; exact HH.out.1
            · rw [Int.toNat_natCast, HME.out, HG.out, HNX.out h HH.out.1, HS.out]; rfl
          | some r =>
            dsimp only at sc
            go_wp2_with fail
            refine (sc _ (by repeat (first | exact Below.refl _ _ | exact hBw | refine Below.drew ?_ | refine below_drewN ?_ _ | refine bset ?_ (by simp <;> omega) _ | refine bal ?_ _))).mono ?_
            rintro e w5 ⟨⟨v5, rfl, hv5⟩, hb5⟩
            have hB5 := bthen hBr hb5
            have hb5' : Below wr.heap.size wr w5 := bthen (by repeat (first | exact Below.refl _ _ | exact hBw | refine Below.drew ?_ | refine below_drewN ?_ _ | refine bset ?_ (by simp <;> omega) _ | refine bal ?_ _)) hb5
            have hO5 := hOr.below hb5'
            have HR5 := Lib.hid (HH.out.2.keep hb5')
            have HV5 := Lib.hid hv5
            have hnth : nt < h.length := by rw [HGO.out.2.1]; omega
            obtain ⟨ut, hut, -⟩ := HR5.out.cell nt hnth
            have hfr := HR5.out.free.2 nt
            have q1 := bkeep hb5' q1
            clear p0 p1 p2 p3
            obtain ⟨p0, p1, p2, p3⟩ := HP.out w5 hO5
            obtain ⟨a5, c5, rfl, -⟩ := hv5
            have HSTEP := Lib.hid (show ∃ h', after code G (n + 1) = some h' ∧ RegsR (w5.setCell ⟨rb, nt, none⟩ (.slice a5 r.length c5)) rb h' from ⟨h.set nt r, by rw [HNX.out h HH.out.1, HS.out, ← HI.out, Option.map_some]; dsimp only; rw [Int.toNat_natCast], HR5.out.step HV5.out hnth⟩)
            have hO6 : Out (fun k => k = rb) w3 (w5.setCell ⟨rb, nt, none⟩ (.slice a5 r.length c5)) := hO5.set (fun _ => rfl) _
            clear sc
            go_wp2
            exact ⟨⟨n + 1, by omega, by go_num, hO6, HSTEP⟩, by simp [intOf]; omega⟩
        · obtain rfl : n = code.length := by omega
          have oc' := fun W (k : Below wr.heap.size wr W) => routs_c ins (R : Int) ca oa code.length cc oc outs rb rc h W (HH.out.2.keep k) (HC.out.2.keep (bthen hBr k)) (fun q hq => by
            obtain ⟨h5, h6⟩ := HOK.out.os q hq
            rw [HGO.out.2.1]; omega) HOK.out.o2 (by rw [HGO.out.2.1]; exact hR128)
          rw [HGO.out.2.1] at oc'
          have HPW := Lib.hid (show ∀ W, Below wr.heap.size wr W → W.cell? ⟨w.heap.size, 0, none⟩ = some (.int .i64 ins) ∧ W.cell? ⟨w.heap.size, 1, none⟩ = some (.int .i64 (R : Int)) ∧ W.cell? ⟨w.heap.size, 2, none⟩ = some (.slice ca code.length cc) ∧ W.cell? ⟨w.heap.size, 3, none⟩ = some (.slice oa outs.length oc) from fun W h => ⟨bkeep h p0, bkeep h p1, bkeep h p2, bkeep h p3⟩)
          have hBc := Below.refl wr.heap.size wr
          clear hM
          go_wp2
          go_region_held3 (fun w' => w'.cell? ⟨w.heap.size, 0, none⟩ = some (.int .i64 ins) ∧ w'.cell? ⟨w.heap.size, 1, none⟩ = some (.int .i64 (R : Int)) ∧ w'.cell? ⟨w.heap.size, 2, none⟩ = some (.slice ca code.length cc) ∧ w'.cell? ⟨w.heap.size, 3, none⟩ = some (.slice oa outs.length oc))
            (first | (refine HPW.out _ ?_; (repeat (first | exact Below.refl _ _ | exact hBc | refine Below.drew ?_ | refine below_drewN ?_ _ | refine bset ?_ (by simp <;> omega) _ | refine bal ?_ _)); done) | fail)
            (first
              | (go_at_call 39; refine (oc' _ ?_).mono ?_; (repeat (first | exact Below.refl _ _ | exact hBc | refine Below.drew ?_ | refine below_drewN ?_ _ | refine bset ?_ (by simp <;> omega) _ | refine bal ?_ _)); rintro e w6 ⟨v6, rfl, hO6⟩; have hBd : Below wr.heap.size wr w6 := bthen (by repeat (first | exact Below.refl _ _ | exact hBc | refine Below.drew ?_ | refine below_drewN ?_ _ | refine bset ?_ (by simp <;> omega) _ | refine bal ?_ _)) hO6.bel; have hBq := hBc; clear hBc; have hBc := hBd; clear hBd; obtain ⟨a6, c6, hv6⟩ := hO6.ex; subst hv6; have HO6 := Lib.hid hO6; clear hO6)
              | fail)
          all_goals
            go_wp2
            go_ret3
            refine ⟨.inr (.inr (.inr ⟨HOK.out, HFIT.out, h, _, ?_, rfl, ?_⟩)), bthen hBr (by repeat (first | exact Below.refl _ _ | exact hBc | refine Below.drew ?_ | refine below_drewN ?_ _ | refine bset ?_ (by simp <;> omega) _ | refine bal ?_ _))⟩
            · rw [Int.toNat_natCast, HME.out, HG.out]; exact HH.out.1
            · refine (HO6.out.rebase (bthen hBr (by repeat (first | exact Below.refl _ _ | exact hBq | refine Below.drew ?_ | refine below_drewN ?_ _ | refine bset ?_ (by simp <;> omega) _ | refine bal ?_ _)))).below (prs_row lims_ref _ _) ?_
              have hB9 := Below.refl w6.heap.size w6
              repeat (first | exact Below.refl _ _ | exact hB9 | refine Below.drew ?_ | refine below_drewN ?_ _ | refine bset ?_ (by simp <;> omega) _ | refine bal ?_ _)
end Go.Proofs.YtannhpadoooedaaGreatDoor
/- The reference's programs: Copy. -/
namespace Go.Proofs.YtannhpadoooedaaGreatDoor
open Go.ChangeShapes Go.WideShapes Go.ChangeAt Go.RowKit
set_option linter.unusedVariables false
set_option linter.unusedSimpArgs false
section
variable {P : Program} {ops : Array Oper} {o : Oper} {a : Act} {Q : Exit → Act → World → Prop} {w : World} {s x : Operand}
/-- append of nothing to nothing -/
theorem app_nil0 {rest : List Oper} (hgd : o.guard = none) (t : TypeId) (ho : o.op = .call { callee := .builtin .append, args := #[s, x], argTypes := #[t, t] }) (e : TypeId) (i : TypeInfo) (c : Nat) (ht : P.underlying t = some (.slice e)) (hi : P.info? e = some i)
    (hs : a.eval s = .slice none 0 0) (hx : a.eval x = .slice none 0 c) (h : wpList P ops Q rest (a.put o.dst (.slice none 0 0)) w) : wpList P ops Q (o :: rest) a w := by
  refine wpList_plain hgd fun K hK => ?_
  have hrun : (Builtin.append_ #[t, t] o.type #[.slice none 0 0, .slice none 0 c]).run P w = .ok (.slice none 0 0) w := by
    simp [Builtin.append_, run_underlying ht, sizeOf, typeInfo, hi, Builtin.lenOf, Builtin.firstCells]
  unfold Oper.wp
  simp [execOp, ho, resolve, invoke, builtin, hs, hx, hrun, Result.andThen]
  exact hK _ _ h
end
section
variable {ops : Array Oper} {o : Oper} {a : Act} {Q : Exit → Act → World → Prop} {w : World} {s x : Operand}
set_option maxRecDepth 100000 in
/-- append of a list of instructions to nothing -/
theorem app_ins0 {rest : List Oper} (hgd : o.guard = none) (ho : o.op = .call { callee := .builtin .append, args := #[s, x], argTypes := #[22, 22] }) {ca : Option Addr} {cc : Nat} {code : List Ins}
    (hs : a.eval s = .slice none 0 0) (hx : a.eval x = .slice ca code.length cc) (hc : InsV w ca cc code) (hcn : ca = none → code = []) (h1 : code.length ≤ 1099511627776)
    (h : ∀ a' c' w', InsV w' a' c' code → FromA w.heap.size 76 w' a' → Below w.heap.size w w' → wpList Tryz.prog ops Q rest (a.put o.dst (.slice a' code.length c')) w') : wpList Tryz.prog ops Q (o :: rest) a w := by
  obtain ⟨i0, z0, hi, hz0, hz1, hz2, hz3⟩ := elP.info
  cases ca with
  | none =>
    obtain rfl : code = [] := hcn rfl
    exact app_nil0 hgd _ ho _ i0 cc Tryz.underlying22 hi hs hx (h none 0 w (.inl rfl) (FromA.nil _ _ _) (Below.refl _ _))
  | some ad =>
    have hnews : ∀ j u, (pcel code)[j]? = some u → w.cell? (ad.add j) = some u := by
      intro j v hj
      have hjl : j < code.length * 5 := by have := (List.getElem?_eq_some_iff.1 hj).1; rwa [pcel_len] at this
      have hj2 : j = j / 5 * 5 + j % 5 := by omega
      rw [hj2, pcel_get code (j / 5) (j % 5) (by omega) (by omega)] at hj
      rcases hc with h | ⟨b, off, h, _, hcell⟩
      · subst h; simp at hjl
      · cases h
        have h3 := (hcell (j / 5) (by omega)).at (by omega) hj
        rw [show off + j / 5 * 5 + j % 5 = off + j by omega] at h3
        unfold Addr.add
        split
        · subst_vars; simpa using h3
        · exact h3
    refine wpList_append_own _ hgd s x _ ho w.heap.size 76 i0 z0 5 40 Tryz.underlying22 hi hz0 hz1 hz2 hz3 (by decide) _ 0 [] hs (World.ownsRow_nil _ _ _ _) ad code.length cc (pcel code) hx (pcel_len code) hnews (pcel_one code) (by unfold maxLen; omega) (by omega) (Nat.le_refl _) ?_
    intro v' w1 hown hgrow _
    have hbel : Below w.heap.size w w1 := (Below.refl _ _).grown hgrow (Nat.le_refl _) (fun k hk => by simp [Value.ownBlock] at hk)
    simp only [Nat.zero_add, List.nil_append] at hown
    obtain ⟨a', c', rfl, hu, hfr⟩ := own_ins hown
    exact h a' c' w1 hu hfr hbel
set_option maxRecDepth 100000 in
/-- append of a list of ints to nothing -/
theorem app_ints0 {rest : List Oper} (hgd : o.guard = none) (ho : o.op = .call { callee := .builtin .append, args := #[s, x], argTypes := #[23, 23] }) {ca : Option Addr} {cc : Nat} {L : List Int}
    (hs : a.eval s = .slice none 0 0) (hx : a.eval x = .slice ca L.length cc) (hc : IntsV w ca cc L) (hcn : ca = none → L = []) (h1 : L.length ≤ 1099511627776)
    (h : ∀ a' c' w', IntsV w' a' c' L → FromA w.heap.size 3 w' a' → Below w.heap.size w w' → wpList Tryz.prog ops Q rest (a.put o.dst (.slice a' L.length c')) w') : wpList Tryz.prog ops Q (o :: rest) a w := by
  obtain ⟨i0, z0, hi, hz0, hz1, hz2, hz3⟩ := elI.info
  cases ca with
  | none =>
    obtain rfl : L = [] := hcn rfl
    exact app_nil0 hgd _ ho _ i0 cc Tryz.underlying23 hi hs hx (h none 0 w (.inl rfl) (FromA.nil _ _ _) (Below.refl _ _))
  | some ad =>
    have hnews : ∀ j u, (icel L)[j]? = some u → w.cell? (ad.add j) = some u := by
      intro j v hj
      have hjl : j < L.length := by have := (List.getElem?_eq_some_iff.1 hj).1; rwa [icel_len] at this
      rw [icel_get L j hjl] at hj
      cases hj
      rcases hc with h | ⟨b, off, h, _, hcell⟩
      · subst h; simp at hjl
      · cases h
        have := hcell j hjl
        unfold Addr.add
        split
        · subst_vars; simpa using this
        · exact this
    refine wpList_append_own _ hgd s x _ ho w.heap.size 3 i0 z0 1 8 Tryz.underlying23 hi hz0 hz1 hz2 hz3 (by decide) _ 0 [] hs (World.ownsRow_nil _ _ _ _) ad L.length cc (icel L) hx (by rw [icel_len, Nat.mul_one]) hnews (icel_one L) (by unfold maxLen; omega) (by omega) (Nat.le_refl _) ?_
    intro v' w1 hown hgrow _
    have hbel : Below w.heap.size w w1 := (Below.refl _ _).grown hgrow (Nat.le_refl _) (fun k hk => by simp [Value.ownBlock] at hk)
    simp only [Nat.zero_add, List.nil_append] at hown
    obtain ⟨a', c', rfl, hu, hfr⟩ := own_ints hown
    exact h a' c' w1 hu hfr hbel
end
set_option maxRecDepth 100000 in
set_option maxHeartbeats 4000000 in
theorem rcopy_c (ins regs : Int) (ca oa : Option Addr) (cc oc : Nat) (code : List Ins) (outs : List Int) (w : World) (hc : InsV w ca cc code) (ho : IntsV w oa oc outs) (hcn : ca = none → code = []) (hon : oa = none → outs = []) (h1 : code.length ≤ 1099511627776) (h2 : outs.length ≤ 1099511627776) :
    Calls Tryz.prog 23 #[.agg #[.int .i64 ins, .int .i64 regs, .slice ca code.length cc, .slice oa outs.length oc]] w fun e w' => (∃ ca' cc' oa' oc', e = .returned (.agg #[.int .i64 ins, .int .i64 regs, .slice ca' code.length cc', .slice oa' outs.length oc']) ∧ InsV w' ca' cc' code ∧ IntsV w' oa' oc' outs ∧ FromA w.heap.size 76 w' ca' ∧ FromA w.heap.size 3 w' oa') ∧ Below w.heap.size w w' := by
  have HC := Lib.hid (And.intro hc (And.intro ho (And.intro hcn hon)))
  clear hc ho hcn hon
  have hB := Below.refl w.heap.size w
  go_enter Tryz.func23, Tryz.ntmps23
  go_upto_region 2 with (fail)
  refine wp_name fun w0 hW0 => ?_
  have p2 : w0.cell? ⟨w.heap.size, 2, none⟩ = some (.slice ca code.length cc) := by rw [hW0]; exact (by first | assumption | exact cell_new (by with_reducible first | rfl | (simp; done) | (simp; omega)) rfl | (repeat (first | assumption | exact cell_new (by with_reducible first | rfl | (simp; done) | (simp; omega)) rfl | refine cell_alloc ?_ _ | refine cell_drew ?_ | refine cell_drewN ?_ _ | refine cell_far ?_ (by simp) _ | (refine cell_far ?_ (by simp <;> omega) _))) | simp [go_sem, *])
  have zp2 := cell_lt p2
  have p3 : w0.cell? ⟨w.heap.size, 3, none⟩ = some (.slice oa outs.length oc) := by rw [hW0]; exact (by first | assumption | exact cell_new (by with_reducible first | rfl | (simp; done) | (simp; omega)) rfl | (repeat (first | assumption | exact cell_new (by with_reducible first | rfl | (simp; done) | (simp; omega)) rfl | refine cell_alloc ?_ _ | refine cell_drew ?_ | refine cell_drewN ?_ _ | refine cell_far ?_ (by simp) _ | (refine cell_far ?_ (by simp <;> omega) _))) | simp [go_sem, *])
  have r0f : w0.frozen? ⟨w.heap.size + 1, 0, none⟩ = false := by rw [hW0]; simp [go_sem, *]
  have r0 : w0.cell? ⟨w.heap.size + 1, 0, none⟩ = some (.int .i64 0) := by rw [hW0]; exact (by first | assumption | exact cell_new (by with_reducible first | rfl | (simp; done) | (simp; omega)) rfl | (repeat (first | assumption | exact cell_new (by with_reducible first | rfl | (simp; done) | (simp; omega)) rfl | refine cell_alloc ?_ _ | refine cell_drew ?_ | refine cell_drewN ?_ _ | refine cell_far ?_ (by simp) _ | (refine cell_far ?_ (by simp <;> omega) _))) | simp [go_sem, *])
  have zr0 := cell_lt r0
  have r1f : w0.frozen? ⟨w.heap.size + 1, 1, none⟩ = false := by rw [hW0]; simp [go_sem, *]
  have r1 : w0.cell? ⟨w.heap.size + 1, 1, none⟩ = some (.int .i64 0) := by rw [hW0]; exact (by first | assumption | exact cell_new (by with_reducible first | rfl | (simp; done) | (simp; omega)) rfl | (repeat (first | assumption | exact cell_new (by with_reducible first | rfl | (simp; done) | (simp; omega)) rfl | refine cell_alloc ?_ _ | refine cell_drew ?_ | refine cell_drewN ?_ _ | refine cell_far ?_ (by simp) _ | (refine cell_far ?_ (by simp <;> omega) _))) | simp [go_sem, *])
  have r2f : w0.frozen? ⟨w.heap.size + 1, 2, none⟩ = false := by rw [hW0]; simp [go_sem, *]
  have r2 : w0.cell? ⟨w.heap.size + 1, 2, none⟩ = some (.slice none 0 0) := by rw [hW0]; exact (by first | assumption | exact cell_new (by with_reducible first | rfl | (simp; done) | (simp; omega)) rfl | (repeat (first | assumption | exact cell_new (by with_reducible first | rfl | (simp; done) | (simp; omega)) rfl | refine cell_alloc ?_ _ | refine cell_drew ?_ | refine cell_drewN ?_ _ | refine cell_far ?_ (by simp) _ | (refine cell_far ?_ (by simp <;> omega) _))) | simp [go_sem, *])
  have r3f : w0.frozen? ⟨w.heap.size + 1, 3, none⟩ = false := by rw [hW0]; simp [go_sem, *]
  have r3 : w0.cell? ⟨w.heap.size + 1, 3, none⟩ = some (.slice none 0 0) := by rw [hW0]; exact (by first | assumption | exact cell_new (by with_reducible first | rfl | (simp; done) | (simp; omega)) rfl | (repeat (first | assumption | exact cell_new (by with_reducible first | rfl | (simp; done) | (simp; omega)) rfl | refine cell_alloc ?_ _ | refine cell_drew ?_ | refine cell_drewN ?_ _ | refine cell_far ?_ (by simp) _ | (refine cell_far ?_ (by simp <;> omega) _))) | simp [go_sem, *])
  have q0f : w0.frozen? ⟨w.heap.size + 2, 0, none⟩ = false := by rw [hW0]; simp [go_sem, *]
  have q0 : w0.cell? ⟨w.heap.size + 2, 0, none⟩ = some (.int .i64 ins) := by rw [hW0]; exact (by first | assumption | exact cell_new (by with_reducible first | rfl | (simp; done) | (simp; omega)) rfl | (repeat (first | assumption | exact cell_new (by with_reducible first | rfl | (simp; done) | (simp; omega)) rfl | refine cell_alloc ?_ _ | refine cell_drew ?_ | refine cell_drewN ?_ _ | refine cell_far ?_ (by simp) _ | (refine cell_far ?_ (by simp <;> omega) _))) | simp [go_sem, *])
  have zq0 := cell_lt q0
  have q1f : w0.frozen? ⟨w.heap.size + 2, 1, none⟩ = false := by rw [hW0]; simp [go_sem, *]
  have q1 : w0.cell? ⟨w.heap.size + 2, 1, none⟩ = some (.int .i64 regs) := by rw [hW0]; exact (by first | assumption | exact cell_new (by with_reducible first | rfl | (simp; done) | (simp; omega)) rfl | (repeat (first | assumption | exact cell_new (by with_reducible first | rfl | (simp; done) | (simp; omega)) rfl | refine cell_alloc ?_ _ | refine cell_drew ?_ | refine cell_drewN ?_ _ | refine cell_far ?_ (by simp) _ | (refine cell_far ?_ (by simp <;> omega) _))) | simp [go_sem, *])
  have q2f : w0.frozen? ⟨w.heap.size + 2, 2, none⟩ = false := by rw [hW0]; simp [go_sem, *]
  have q2 : w0.cell? ⟨w.heap.size + 2, 2, none⟩ = some (.slice none 0 0) := by rw [hW0]; exact (by first | assumption | exact cell_new (by with_reducible first | rfl | (simp; done) | (simp; omega)) rfl | (repeat (first | assumption | exact cell_new (by with_reducible first | rfl | (simp; done) | (simp; omega)) rfl | refine cell_alloc ?_ _ | refine cell_drew ?_ | refine cell_drewN ?_ _ | refine cell_far ?_ (by simp) _ | (refine cell_far ?_ (by simp <;> omega) _))) | simp [go_sem, *])
  have q3f : w0.frozen? ⟨w.heap.size + 2, 3, none⟩ = false := by rw [hW0]; simp [go_sem, *]
  have q3 : w0.cell? ⟨w.heap.size + 2, 3, none⟩ = some (.slice none 0 0) := by rw [hW0]; exact (by first | assumption | exact cell_new (by with_reducible first | rfl | (simp; done) | (simp; omega)) rfl | (repeat (first | assumption | exact cell_new (by with_reducible first | rfl | (simp; done) | (simp; omega)) rfl | refine cell_alloc ?_ _ | refine cell_drew ?_ | refine cell_drewN ?_ _ | refine cell_far ?_ (by simp) _ | (refine cell_far ?_ (by simp <;> omega) _))) | simp [go_sem, *])
  have hB : Below w.heap.size w w0 := by rw [hW0]; repeat (first | exact Below.refl _ _ | exact hB | refine Below.drew ?_ | refine below_drewN ?_ _ | refine bset ?_ (by simp <;> omega) _ | refine bal ?_ _)
  have hz : w.heap.size ≤ w0.heap.size := hB.size
  clear hW0
  have hz0 : w.heap.size + 2 < w0.heap.size := zq0
  go_wp2_with (at_builtin; refine app_ins0 (by rfl) (by rfl) (by rfl) (by rfl) (HC.out.1.keep hB) HC.out.2.2.1 h1 ?_)
  intro a1 c1 w1 hi1 hf1 hb1
  have p2 : w1.cell? ⟨w.heap.size, 2, none⟩ = some (.slice ca code.length cc) := bkeep hb1 (by first | assumption | exact cell_new (by with_reducible first | rfl | (simp; done) | (simp; omega)) rfl | (repeat (first | assumption | exact cell_new (by with_reducible first | rfl | (simp; done) | (simp; omega)) rfl | refine cell_alloc ?_ _ | refine cell_drew ?_ | refine cell_drewN ?_ _ | refine cell_far ?_ (by simp) _ | (refine cell_far ?_ (by simp <;> omega) _))) | simp [go_sem, *])
  have zp2 := cell_lt p2
  have p3 : w1.cell? ⟨w.heap.size, 3, none⟩ = some (.slice oa outs.length oc) := bkeep hb1 (by first | assumption | exact cell_new (by with_reducible first | rfl | (simp; done) | (simp; omega)) rfl | (repeat (first | assumption | exact cell_new (by with_reducible first | rfl | (simp; done) | (simp; omega)) rfl | refine cell_alloc ?_ _ | refine cell_drew ?_ | refine cell_drewN ?_ _ | refine cell_far ?_ (by simp) _ | (refine cell_far ?_ (by simp <;> omega) _))) | simp [go_sem, *])
  have r0 : w1.cell? ⟨w.heap.size + 1, 0, none⟩ = some (.int .i64 0) := bkeep hb1 (by first | assumption | exact cell_new (by with_reducible first | rfl | (simp; done) | (simp; omega)) rfl | (repeat (first | assumption | exact cell_new (by with_reducible first | rfl | (simp; done) | (simp; omega)) rfl | refine cell_alloc ?_ _ | refine cell_drew ?_ | refine cell_drewN ?_ _ | refine cell_far ?_ (by simp) _ | (refine cell_far ?_ (by simp <;> omega) _))) | simp [go_sem, *])
  have zr0 := cell_lt r0
  have r0f : w1.frozen? ⟨w.heap.size + 1, 0, none⟩ = false := bkeepf (v := .int .i64 0) hb1 (by first | assumption | exact cell_new (by with_reducible first | rfl | (simp; done) | (simp; omega)) rfl | (repeat (first | assumption | exact cell_new (by with_reducible first | rfl | (simp; done) | (simp; omega)) rfl | refine cell_alloc ?_ _ | refine cell_drew ?_ | refine cell_drewN ?_ _ | refine cell_far ?_ (by simp) _ | (refine cell_far ?_ (by simp <;> omega) _))) | simp [go_sem, *]) (by first | assumption | (simp <;> assumption) | simp [go_sem, *])
  have r1 : w1.cell? ⟨w.heap.size + 1, 1, none⟩ = some (.int .i64 0) := bkeep hb1 (by first | assumption | exact cell_new (by with_reducible first | rfl | (simp; done) | (simp; omega)) rfl | (repeat (first | assumption | exact cell_new (by with_reducible first | rfl | (simp; done) | (simp; omega)) rfl | refine cell_alloc ?_ _ | refine cell_drew ?_ | refine cell_drewN ?_ _ | refine cell_far ?_ (by simp) _ | (refine cell_far ?_ (by simp <;> omega) _))) | simp [go_sem, *])
  have r1f : w1.frozen? ⟨w.heap.size + 1, 1, none⟩ = false := bkeepf (v := .int .i64 0) hb1 (by first | assumption | exact cell_new (by with_reducible first | rfl | (simp; done) | (simp; omega)) rfl | (repeat (first | assumption | exact cell_new (by with_reducible first | rfl | (simp; done) | (simp; omega)) rfl | refine cell_alloc ?_ _ | refine cell_drew ?_ | refine cell_drewN ?_ _ | refine cell_far ?_ (by simp) _ | (refine cell_far ?_ (by simp <;> omega) _))) | simp [go_sem, *]) (by first | assumption | (simp <;> assumption) | simp [go_sem, *])
  have r2 : w1.cell? ⟨w.heap.size + 1, 2, none⟩ = some (.slice none 0 0) := bkeep hb1 (by first | assumption | exact cell_new (by with_reducible first | rfl | (simp; done) | (simp; omega)) rfl | (repeat (first | assumption | exact cell_new (by with_reducible first | rfl | (simp; done) | (simp; omega)) rfl | refine cell_alloc ?_ _ | refine cell_drew ?_ | refine cell_drewN ?_ _ | refine cell_far ?_ (by simp) _ | (refine cell_far ?_ (by simp <;> omega) _))) | simp [go_sem, *])
  have r2f : w1.frozen? ⟨w.heap.size + 1, 2, none⟩ = false := bkeepf (v := .slice none 0 0) hb1 (by first | assumption | exact cell_new (by with_reducible first | rfl | (simp; done) | (simp; omega)) rfl | (repeat (first | assumption | exact cell_new (by with_reducible first | rfl | (simp; done) | (simp; omega)) rfl | refine cell_alloc ?_ _ | refine cell_drew ?_ | refine cell_drewN ?_ _ | refine cell_far ?_ (by simp) _ | (refine cell_far ?_ (by simp <;> omega) _))) | simp [go_sem, *]) (by first | assumption | (simp <;> assumption) | simp [go_sem, *])
  have r3 : w1.cell? ⟨w.heap.size + 1, 3, none⟩ = some (.slice none 0 0) := bkeep hb1 (by first | assumption | exact cell_new (by with_reducible first | rfl | (simp; done) | (simp; omega)) rfl | (repeat (first | assumption | exact cell_new (by with_reducible first | rfl | (simp; done) | (simp; omega)) rfl | refine cell_alloc ?_ _ | refine cell_drew ?_ | refine cell_drewN ?_ _ | refine cell_far ?_ (by simp) _ | (refine cell_far ?_ (by simp <;> omega) _))) | simp [go_sem, *])
  have r3f : w1.frozen? ⟨w.heap.size + 1, 3, none⟩ = false := bkeepf (v := .slice none 0 0) hb1 (by first | assumption | exact cell_new (by with_reducible first | rfl | (simp; done) | (simp; omega)) rfl | (repeat (first | assumption | exact cell_new (by with_reducible first | rfl | (simp; done) | (simp; omega)) rfl | refine cell_alloc ?_ _ | refine cell_drew ?_ | refine cell_drewN ?_ _ | refine cell_far ?_ (by simp) _ | (refine cell_far ?_ (by simp <;> omega) _))) | simp [go_sem, *]) (by first | assumption | (simp <;> assumption) | simp [go_sem, *])
  have q0 : w1.cell? ⟨w.heap.size + 2, 0, none⟩ = some (.int .i64 ins) := bkeep hb1 (by first | assumption | exact cell_new (by with_reducible first | rfl | (simp; done) | (simp; omega)) rfl | (repeat (first | assumption | exact cell_new (by with_reducible first | rfl | (simp; done) | (simp; omega)) rfl | refine cell_alloc ?_ _ | refine cell_drew ?_ | refine cell_drewN ?_ _ | refine cell_far ?_ (by simp) _ | (refine cell_far ?_ (by simp <;> omega) _))) | simp [go_sem, *])
  have zq0 := cell_lt q0
  have q0f : w1.frozen? ⟨w.heap.size + 2, 0, none⟩ = false := bkeepf (v := .int .i64 ins) hb1 (by first | assumption | exact cell_new (by with_reducible first | rfl | (simp; done) | (simp; omega)) rfl | (repeat (first | assumption | exact cell_new (by with_reducible first | rfl | (simp; done) | (simp; omega)) rfl | refine cell_alloc ?_ _ | refine cell_drew ?_ | refine cell_drewN ?_ _ | refine cell_far ?_ (by simp) _ | (refine cell_far ?_ (by simp <;> omega) _))) | simp [go_sem, *]) (by first | assumption | (simp <;> assumption) | simp [go_sem, *])
  have q1 : w1.cell? ⟨w.heap.size + 2, 1, none⟩ = some (.int .i64 regs) := bkeep hb1 (by first | assumption | exact cell_new (by with_reducible first | rfl | (simp; done) | (simp; omega)) rfl | (repeat (first | assumption | exact cell_new (by with_reducible first | rfl | (simp; done) | (simp; omega)) rfl | refine cell_alloc ?_ _ | refine cell_drew ?_ | refine cell_drewN ?_ _ | refine cell_far ?_ (by simp) _ | (refine cell_far ?_ (by simp <;> omega) _))) | simp [go_sem, *])
  have q1f : w1.frozen? ⟨w.heap.size + 2, 1, none⟩ = false := bkeepf (v := .int .i64 regs) hb1 (by first | assumption | exact cell_new (by with_reducible first | rfl | (simp; done) | (simp; omega)) rfl | (repeat (first | assumption | exact cell_new (by with_reducible first | rfl | (simp; done) | (simp; omega)) rfl | refine cell_alloc ?_ _ | refine cell_drew ?_ | refine cell_drewN ?_ _ | refine cell_far ?_ (by simp) _ | (refine cell_far ?_ (by simp <;> omega) _))) | simp [go_sem, *]) (by first | assumption | (simp <;> assumption) | simp [go_sem, *])
  have q2 : w1.cell? ⟨w.heap.size + 2, 2, none⟩ = some (.slice none 0 0) := bkeep hb1 (by first | assumption | exact cell_new (by with_reducible first | rfl | (simp; done) | (simp; omega)) rfl | (repeat (first | assumption | exact cell_new (by with_reducible first | rfl | (simp; done) | (simp; omega)) rfl | refine cell_alloc ?_ _ | refine cell_drew ?_ | refine cell_drewN ?_ _ | refine cell_far ?_ (by simp) _ | (refine cell_far ?_ (by simp <;> omega) _))) | simp [go_sem, *])
  have q2f : w1.frozen? ⟨w.heap.size + 2, 2, none⟩ = false := bkeepf (v := .slice none 0 0) hb1 (by first | assumption | exact cell_new (by with_reducible first | rfl | (simp; done) | (simp; omega)) rfl | (repeat (first | assumption | exact cell_new (by with_reducible first | rfl | (simp; done) | (simp; omega)) rfl | refine cell_alloc ?_ _ | refine cell_drew ?_ | refine cell_drewN ?_ _ | refine cell_far ?_ (by simp) _ | (refine cell_far ?_ (by simp <;> omega) _))) | simp [go_sem, *]) (by first | assumption | (simp <;> assumption) | simp [go_sem, *])
  have q3 : w1.cell? ⟨w.heap.size + 2, 3, none⟩ = some (.slice none 0 0) := bkeep hb1 (by first | assumption | exact cell_new (by with_reducible first | rfl | (simp; done) | (simp; omega)) rfl | (repeat (first | assumption | exact cell_new (by with_reducible first | rfl | (simp; done) | (simp; omega)) rfl | refine cell_alloc ?_ _ | refine cell_drew ?_ | refine cell_drewN ?_ _ | refine cell_far ?_ (by simp) _ | (refine cell_far ?_ (by simp <;> omega) _))) | simp [go_sem, *])
  have q3f : w1.frozen? ⟨w.heap.size + 2, 3, none⟩ = false := bkeepf (v := .slice none 0 0) hb1 (by first | assumption | exact cell_new (by with_reducible first | rfl | (simp; done) | (simp; omega)) rfl | (repeat (first | assumption | exact cell_new (by with_reducible first | rfl | (simp; done) | (simp; omega)) rfl | refine cell_alloc ?_ _ | refine cell_drew ?_ | refine cell_drewN ?_ _ | refine cell_far ?_ (by simp) _ | (refine cell_far ?_ (by simp <;> omega) _))) | simp [go_sem, *]) (by first | assumption | (simp <;> assumption) | simp [go_sem, *])
  have hB : Below w.heap.size w w1 := bthen (by repeat (first | exact Below.refl _ _ | exact hB | refine Below.drew ?_ | refine below_drewN ?_ _ | refine bset ?_ (by simp <;> omega) _ | refine bal ?_ _)) hb1
  have hz : w.heap.size ≤ w1.heap.size := hB.size
  have HI1 := Lib.hid hi1
  have HF1 := Lib.hid hf1
  have hz1 : w0.heap.size ≤ w1.heap.size := hb1.size
  clear hi1 hf1
  go_wp2_with (at_builtin; refine app_ints0 (by rfl) (by rfl) (by rfl) (by rfl) (HC.out.2.1.keep (by repeat (first | exact Below.refl _ _ | exact hB | refine Below.drew ?_ | refine below_drewN ?_ _ | refine bset ?_ (by simp <;> omega) _ | refine bal ?_ _))) HC.out.2.2.2 h2 ?_)
  intro a2 c2 w2 hi2 hf2 hb2
  have hb3 : Below (w1.setCell ⟨w.heap.size + 1 + 1, 2, none⟩ (.slice a1 code.length c1)).heap.size (w1.setCell ⟨w.heap.size + 1 + 1, 2, none⟩ (.slice a1 code.length c1)) w2 := by simpa using hb2
  have r0f := bkeepf hb3 (cell_far r0 (by simp) _) (by simpa using r0f)
  have r1f := bkeepf hb3 (cell_far r1 (by simp) _) (by simpa using r1f)
  have r2f := bkeepf hb3 (cell_far r2 (by simp) _) (by simpa using r2f)
  have r3f := bkeepf hb3 (cell_far r3 (by simp) _) (by simpa using r3f)
  have q3f := bkeepf hb3 (cell_far q3 (by simp) _) (by simpa using q3f)
  replace r0 := bkeep hb3 (cell_far r0 (by simp) _)
  replace r1 := bkeep hb3 (cell_far r1 (by simp) _)
  replace r2 := bkeep hb3 (cell_far r2 (by simp) _)
  replace r3 := bkeep hb3 (cell_far r3 (by simp) _)
  replace q0 := bkeep hb3 (cell_far q0 (by simp) _)
  replace q1 := bkeep hb3 (cell_far q1 (by simp) _)
  replace q3 := bkeep hb3 (cell_far q3 (by simp) _)
  replace q2 : w2.cell? ⟨w.heap.size + 2, 2, none⟩ = some (.slice a1 code.length c1) := bkeep hb3 (cell_here q2 _)
  have hB3 : Below w.heap.size w w2 := bthen (by repeat (first | exact Below.refl _ _ | exact hB | refine Below.drew ?_ | refine below_drewN ?_ _ | refine bset ?_ (by simp <;> omega) _ | refine bal ?_ _)) hb3
  have far1 : ∀ {o : Nat} (p : Addr), a1 = some p → p.block ≠ (⟨w.heap.size + 1 + 1, o, none⟩ : Addr).block := fun p e => by have := (HF1.out p e).1; show p.block ≠ w.heap.size + 1 + 1; omega
  have far2 : ∀ {o : Nat} (p : Addr), a1 = some p → p.block ≠ (⟨w.heap.size + 1, o, none⟩ : Addr).block := fun p e => by have := (HF1.out p e).1; show p.block ≠ w.heap.size + 1; omega
  have gar1 : ∀ {o : Nat} (p : Addr), a2 = some p → p.block ≠ (⟨w.heap.size + 1 + 1, o, none⟩ : Addr).block := fun p e => by have := (hf2 p e).1; (try simp at this); show p.block ≠ w.heap.size + 1 + 1; omega
  have gar2 : ∀ {o : Nat} (p : Addr), a2 = some p → p.block ≠ (⟨w.heap.size + 1, o, none⟩ : Addr).block := fun p e => by have := (hf2 p e).1; (try simp at this); show p.block ≠ w.heap.size + 1; omega
  have HI2 := Lib.hid (show InsV ((((((w2.setCell ⟨w.heap.size + 1 + 1, 3, none⟩ (.slice a2 outs.length c2)).setCell ⟨w.heap.size + 1, 0, none⟩ (.int .i64 ins)).setCell ⟨w.heap.size + 1, 1, none⟩ (.int .i64 regs)).setCell ⟨w.heap.size + 1, 2, none⟩ (.slice a1 code.length c1)).setCell ⟨w.heap.size + 1, 3, none⟩ (.slice a2 outs.length c2))) a1 c1 code from
    InsV.far (InsV.far (InsV.far (InsV.far (InsV.far ((HI1.out.far far1 _).keep hb3) far1 _) far2 _) far2 _) far2 _) far2 _)
  have HJ2 := Lib.hid (show IntsV ((((((w2.setCell ⟨w.heap.size + 1 + 1, 3, none⟩ (.slice a2 outs.length c2)).setCell ⟨w.heap.size + 1, 0, none⟩ (.int .i64 ins)).setCell ⟨w.heap.size + 1, 1, none⟩ (.int .i64 regs)).setCell ⟨w.heap.size + 1, 2, none⟩ (.slice a1 code.length c1)).setCell ⟨w.heap.size + 1, 3, none⟩ (.slice a2 outs.length c2))) a2 c2 outs from
    IntsV.far (IntsV.far (IntsV.far (IntsV.far (IntsV.far hi2 gar1 _) gar2 _) gar2 _) gar2 _) gar2 _)
  have HF2 := Lib.hid (show FromA w.heap.size 76 w2 a1 from ((HF1.out.set _ _).keep hb3).mono (by omega))
  have HG2 := Lib.hid (show FromA w.heap.size 3 w2 a2 from hf2.mono (by first | omega | (simp; omega)))
  clear hi2 hf2 far1 far2 gar1 gar2 hb2 hb3 p2 p3
  go_wp2
  refine bodyPost_ret (v := .agg #[.int .i64 ins, .int .i64 regs, .slice a1 code.length c1, .slice a2 outs.length c2]) (by simp [results, Tryz.results23, go_sem, *]) rfl ⟨⟨_, _, _, _, rfl, HI2.out, HJ2.out, ?_, ?_⟩, ?_⟩
  · exact ((((HF2.out.set _ _).set _ _).set _ _).set _ _).set _ _
  · exact ((((HG2.out.set _ _).set _ _).set _ _).set _ _).set _ _
  ·
    repeat (first | exact Below.refl _ _ | exact hB3 | refine Below.drew ?_ | refine below_drewN ?_ _ | refine bset ?_ (by simp <;> omega) _ | refine bal ?_ _)
end Go.Proofs.YtannhpadoooedaaGreatDoor
