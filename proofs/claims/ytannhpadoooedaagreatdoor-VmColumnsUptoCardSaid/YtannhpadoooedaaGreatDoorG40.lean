/- Texts of this seat, laid together: VwH, Vo. Each opens with its own remark, which says what it proves, and under which conditions. -/
import Derived.Test.YtannhpadoooedaaGreatDoorG38
import Derived.Test.YtannhpadoooedaaGreatDoorG39
import Derived.Deep.Cut
import Derived.Deep.DeepCutAuto
import Derived.Test.YtannhpadoooedaaGreatDoorRows
import Derived.Test.YtannhpadoooedaaGreatDoorG27
import Derived.Lib.SmallJoins
import Derived.Deep.Slices
import Derived.Deep.Matrix
import Derived.Deep.Fields
import Derived.ChangeSame
import Derived.DataShut
/- The law VmStepped. -/
namespace Go.Proofs.YtannhpadoooedaaGreatDoor
open Num
open Go.ChangeShapes Go.WideShapes Go.ChangeAt Go.RowKit
set_option linter.unusedVariables false
set_option linter.unusedSimpArgs false
attribute [local go_sem ↓] Go.wp_at_zero Go.wp_at_succ
set_option maxRecDepth 100000 in
set_option maxHeartbeats 16000000 in
theorem vmStepped_h (ins regs : Int) (ca oa : Option Addr) (cc oc : Nat) (code : List Ins) (outs : List Int) (v : Value) (g : Grid) (w : World) (hp : ProgI w ca oa cc oc code outs) (hg : GridS w v g) (hT : Tz32 w) :
    Calls Tryz.prog 5 #[.agg #[.int .i64 ins, .int .i64 regs, .slice ca code.length cc, .slice oa outs.length oc], v] w fun e w' => e = .returned (.bool true) ∧ Below w.heap.size w w' := by
  have wc := fun W (h : Below w.heap.size w W) => works_c W (hT.keep h)
  have lc := fun W (h : Below w.heap.size w W) => long_c ins regs ca oa cc oc code.length outs.length v g W (hg.i.keep h) hg.s hg.l hp.cl
  have HP := Lib.hid hp
  have HG := Lib.hid hg
  have HT := Lib.hid hT
  have HBD := Lib.hid hg.i.bd
  obtain ⟨ga, gc, rfl, -⟩ := hg.i
  clear hp hg hT
  have hB := Below.refl w.heap.size w
  go_enter Tryz.func5, Tryz.ntmps5
  go_wp2_with fail
  refine (wc _ (by repeat (first | exact Below.refl _ _ | exact hB | refine Below.drew ?_ | refine below_drewN ?_ _ | refine bset ?_ (by simp <;> omega) _ | refine bal ?_ _))).mono ?_
  rintro e w1 ⟨rfl, hb1⟩
  have p0 : w1.cell? ⟨w.heap.size, 0, none⟩ = some (.int .i64 ins) := bkeep hb1 (by first | assumption | exact cell_new (by with_reducible first | rfl | (simp; done) | (simp; omega)) rfl | (repeat (first | assumption | exact cell_new (by with_reducible first | rfl | (simp; done) | (simp; omega)) rfl | refine cell_alloc ?_ _ | refine cell_drew ?_ | refine cell_drewN ?_ _ | refine cell_far ?_ (by simp) _ | (refine cell_far ?_ (by simp <;> omega) _))) | simp [go_sem, *])
  have zp0 := cell_lt p0
  have p1 : w1.cell? ⟨w.heap.size, 1, none⟩ = some (.int .i64 regs) := bkeep hb1 (by first | assumption | exact cell_new (by with_reducible first | rfl | (simp; done) | (simp; omega)) rfl | (repeat (first | assumption | exact cell_new (by with_reducible first | rfl | (simp; done) | (simp; omega)) rfl | refine cell_alloc ?_ _ | refine cell_drew ?_ | refine cell_drewN ?_ _ | refine cell_far ?_ (by simp) _ | (refine cell_far ?_ (by simp <;> omega) _))) | simp [go_sem, *])
  have p2 : w1.cell? ⟨w.heap.size, 2, none⟩ = some (.slice ca code.length cc) := bkeep hb1 (by first | assumption | exact cell_new (by with_reducible first | rfl | (simp; done) | (simp; omega)) rfl | (repeat (first | assumption | exact cell_new (by with_reducible first | rfl | (simp; done) | (simp; omega)) rfl | refine cell_alloc ?_ _ | refine cell_drew ?_ | refine cell_drewN ?_ _ | refine cell_far ?_ (by simp) _ | (refine cell_far ?_ (by simp <;> omega) _))) | simp [go_sem, *])
  have p3 : w1.cell? ⟨w.heap.size, 3, none⟩ = some (.slice oa outs.length oc) := bkeep hb1 (by first | assumption | exact cell_new (by with_reducible first | rfl | (simp; done) | (simp; omega)) rfl | (repeat (first | assumption | exact cell_new (by with_reducible first | rfl | (simp; done) | (simp; omega)) rfl | refine cell_alloc ?_ _ | refine cell_drew ?_ | refine cell_drewN ?_ _ | refine cell_far ?_ (by simp) _ | (refine cell_far ?_ (by simp <;> omega) _))) | simp [go_sem, *])
  have hB : Below w.heap.size w w1 := bthen (by repeat (first | exact Below.refl _ _ | exact hB | refine Below.drew ?_ | refine below_drewN ?_ _ | refine bset ?_ (by simp <;> omega) _ | refine bal ?_ _)) hb1
  have hz : w.heap.size ≤ w1.heap.size := hB.size
  clear wc
  go_wp2_with fail
  refine (lc _ (by repeat (first | exact Below.refl _ _ | exact hB | refine Below.drew ?_ | refine below_drewN ?_ _ | refine bset ?_ (by simp <;> omega) _ | refine bal ?_ _))).mono ?_
  rintro e w2 ⟨rfl, hb2⟩
  have p0 : w2.cell? ⟨w.heap.size, 0, none⟩ = some (.int .i64 ins) := bkeep hb2 (by first | assumption | exact cell_new (by with_reducible first | rfl | (simp; done) | (simp; omega)) rfl | (repeat (first | assumption | exact cell_new (by with_reducible first | rfl | (simp; done) | (simp; omega)) rfl | refine cell_alloc ?_ _ | refine cell_drew ?_ | refine cell_drewN ?_ _ | refine cell_far ?_ (by simp) _ | (refine cell_far ?_ (by simp <;> omega) _))) | simp [go_sem, *])
  have zp0 := cell_lt p0
  have p1 : w2.cell? ⟨w.heap.size, 1, none⟩ = some (.int .i64 regs) := bkeep hb2 (by first | assumption | exact cell_new (by with_reducible first | rfl | (simp; done) | (simp; omega)) rfl | (repeat (first | assumption | exact cell_new (by with_reducible first | rfl | (simp; done) | (simp; omega)) rfl | refine cell_alloc ?_ _ | refine cell_drew ?_ | refine cell_drewN ?_ _ | refine cell_far ?_ (by simp) _ | (refine cell_far ?_ (by simp <;> omega) _))) | simp [go_sem, *])
  have p2 : w2.cell? ⟨w.heap.size, 2, none⟩ = some (.slice ca code.length cc) := bkeep hb2 (by first | assumption | exact cell_new (by with_reducible first | rfl | (simp; done) | (simp; omega)) rfl | (repeat (first | assumption | exact cell_new (by with_reducible first | rfl | (simp; done) | (simp; omega)) rfl | refine cell_alloc ?_ _ | refine cell_drew ?_ | refine cell_drewN ?_ _ | refine cell_far ?_ (by simp) _ | (refine cell_far ?_ (by simp <;> omega) _))) | simp [go_sem, *])
  have p3 : w2.cell? ⟨w.heap.size, 3, none⟩ = some (.slice oa outs.length oc) := bkeep hb2 (by first | assumption | exact cell_new (by with_reducible first | rfl | (simp; done) | (simp; omega)) rfl | (repeat (first | assumption | exact cell_new (by with_reducible first | rfl | (simp; done) | (simp; omega)) rfl | refine cell_alloc ?_ _ | refine cell_drew ?_ | refine cell_drewN ?_ _ | refine cell_far ?_ (by simp) _ | (refine cell_far ?_ (by simp <;> omega) _))) | simp [go_sem, *])
  have hB : Below w.heap.size w w2 := bthen (by repeat (first | exact Below.refl _ _ | exact hB | refine Below.drew ?_ | refine below_drewN ?_ _ | refine bset ?_ (by simp <;> omega) _ | refine bal ?_ _)) hb2
  have hz : w.heap.size ≤ w2.heap.size := hB.size
  clear lc
  cases hlg : longB code.length regs (sumG g) with
  | true =>
    go_wp2
    go_ret
    exact ⟨rfl, by repeat (first | exact Below.refl _ _ | exact hB | refine Below.drew ?_ | refine below_drewN ?_ _ | refine bset ?_ (by simp <;> omega) _ | refine bal ?_ _)⟩
  | false =>
    have hll : sumG g ≤ 300 := by
      have := of_decide_eq_false hlg; omega
    have HL := Lib.hid hll
    clear hlg hll
    have hgl : g.length ≤ 1048576 := HG.out.l
    have hgl24 : (g.length + 1) * 24 ≤ 140737488355328 := by omega
    go_wp2
    have HS := Lib.hid (show ∀ W, Below w2.heap.size w2 W → W.cell? ⟨w.heap.size, 0, none⟩ = some (.int .i64 ins) ∧ W.cell? ⟨w.heap.size, 1, none⟩ = some (.int .i64 regs) ∧ W.cell? ⟨w.heap.size, 2, none⟩ = some (.slice ca code.length cc) ∧ W.cell? ⟨w.heap.size, 3, none⟩ = some (.slice oa outs.length oc) from fun W h => ⟨bkeep h p0, bkeep h p1, bkeep h p2, bkeep h p3⟩)
    have lx := fun W (h : Below w2.heap.size w2 W) => lists_c (.slice ga g.length gc) g W (HG.out.i.keep (bthen hB h)) hgl24 HL.out
    have rx := fun vq W (h : Below w2.heap.size w2 W) (hv : GridV W vq g) => run_c ins regs ca oa cc oc code outs vq g 64 W (HP.out.c.keep (bthen hB h)) (HP.out.o.keep (bthen hB h)) HP.out.cn HP.out.on hv (by have := HP.out.cl; omega) (by have := HP.out.ol; omega) (by omega) HBD.out (by omega) (HT.out.keep (bthen hB h))
    have nx := fun vq W (h : Below w2.heap.size w2 W) (hv : GridV W vq g) => new_c ins regs ca oa cc oc code outs vq g W (HP.out.c.keep (bthen hB h)) (HP.out.o.keep (bthen hB h)) HP.out.cn HP.out.on hv (by have := HP.out.cl; omega) (by have := HP.out.ol; omega) (by omega)
    have hBc := Below.refl w2.heap.size w2
    go_region_held3 (fun w' => w'.cell? ⟨w.heap.size, 0, none⟩ = some (.int .i64 ins) ∧ w'.cell? ⟨w.heap.size, 1, none⟩ = some (.int .i64 regs) ∧ w'.cell? ⟨w.heap.size, 2, none⟩ = some (.slice ca code.length cc) ∧ w'.cell? ⟨w.heap.size, 3, none⟩ = some (.slice oa outs.length oc))
      (first | (refine HS.out _ ?_; (repeat (first | exact Below.refl _ _ | exact hBc | refine Below.drew ?_ | refine below_drewN ?_ _ | refine bset ?_ (by simp <;> omega) _ | refine bal ?_ _)); done) | fail)
      (first
        | (go_at_call 21; refine (lx _ ?_).mono ?_; (repeat (first | exact Below.refl _ _ | exact hBc | refine Below.drew ?_ | refine below_drewN ?_ _ | refine bset ?_ (by simp <;> omega) _ | refine bal ?_ _)); rintro e w5 ⟨v5, rfl, hO5⟩; have hBd : Below w2.heap.size w2 w5 := bthen (by repeat (first | exact Below.refl _ _ | exact hBc | refine Below.drew ?_ | refine below_drewN ?_ _ | refine bset ?_ (by simp <;> omega) _ | refine bal ?_ _)) hO5.bel; clear hBc; have hBc := hBd; have HV5 := Lib.hid hO5.gridV; obtain ⟨a5, c5, rfl⟩ := hO5.ex; clear hBd hO5)
        | (go_at_call 22; refine (rx _ _ ?_ HV5.out).mono ?_; (repeat (first | exact Below.refl _ _ | exact hBc | refine Below.drew ?_ | refine below_drewN ?_ _ | refine bset ?_ (by simp <;> omega) _ | refine bal ?_ _)); rintro e w6 hr6; obtain ⟨⟨ra, rl, rcp, rn, rs, rfl, hres⟩, hb6⟩ := runRes hr6; have hBd : Below w2.heap.size w2 w6 := bthen hBc hb6; clear hBc; have hBc := hBd; have HRR := Lib.hid hres; clear hBd hr6 hres hb6)
        | fail)
    clear HV5
    go_wp2
    go_region_held3 (fun w' => w'.cell? ⟨w.heap.size, 0, none⟩ = some (.int .i64 ins) ∧ w'.cell? ⟨w.heap.size, 1, none⟩ = some (.int .i64 regs) ∧ w'.cell? ⟨w.heap.size, 2, none⟩ = some (.slice ca code.length cc) ∧ w'.cell? ⟨w.heap.size, 3, none⟩ = some (.slice oa outs.length oc))
      (first | (refine HS.out _ ?_; (repeat (first | exact Below.refl _ _ | exact hBc | refine Below.drew ?_ | refine below_drewN ?_ _ | refine bset ?_ (by simp <;> omega) _ | refine bal ?_ _)); done) | fail)
      (first
        | (go_at_call 21; refine (lx _ ?_).mono ?_; (repeat (first | exact Below.refl _ _ | exact hBc | refine Below.drew ?_ | refine below_drewN ?_ _ | refine bset ?_ (by simp <;> omega) _ | refine bal ?_ _)); rintro e w7 ⟨v7, rfl, hO7⟩; have hb7 : Below w6.heap.size w6 w7 := bthen (by repeat (first | exact Below.refl _ _ | refine Below.drew ?_)) hO7.bel; have hBd : Below w2.heap.size w2 w7 := bthen hBc hb7; clear hBc; have hBc := hBd; have HB27 := Lib.hid hBd; have HV7 := Lib.hid hO7.gridV; obtain ⟨a7, c7, rfl⟩ := hO7.ex; clear hBd hO7)
        | (go_at_call 28; refine (nx _ _ ?_ HV7.out).mono ?_; (repeat (first | exact Below.refl _ _ | exact hBc | refine Below.drew ?_ | refine below_drewN ?_ _ | refine bset ?_ (by simp <;> omega) _ | refine bal ?_ _)); rintro e w8 hr8; obtain ⟨⟨pv, ns, rfl, hnew⟩, hb8⟩ := newRes hr8; have hBd : Below w2.heap.size w2 w8 := bthen hBc hb8; clear hBc; have hBc := hBd; have HNR := Lib.hid hnew; have HRR8 := Lib.hid (HRR.out.keep hb7); have HB78 := Lib.hid hb8; clear hBd hr8 hnew hb8)
        | fail)
    clear HV7 lx rx nx HRR p0 p1 p2 p3
    obtain ⟨p0, p1, p2, p3⟩ := HS.out w8 hBc
    have hB8 := bthen hB hBc
    rcases HNR.out with ⟨hno, rfl, rfl⟩ | ⟨hok, hnf, rfl, rfl⟩ | ⟨hok, hfit, rfl, b, rb, rc, rfl, hM⟩
    · obtain rfl : rs = 80 := by
        rcases HRR8.out with h | h | h | h
        · exact h.2.2.2
        · exact absurd h.1 hno
        · exact absurd h.1 hno
        · exact absurd h.1 hno
      clear hno
      go_wp2
      go_ret
      exact ⟨rfl, hB8⟩
    · obtain rfl : rs = 5 := by
        rcases HRR8.out with h | h | h | h
        · exact absurd hok h.1
        · exact h.2.2.2.2
        · exact absurd h.2.1 hnf
        · exact absurd h.2.1 hnf
      clear hok hnf
      go_wp2
      go_ret
      exact ⟨rfl, hB8⟩
    · have HM := Lib.hid hM
      have HOK := Lib.hid hok
      have HFIT := Lib.hid hfit
      clear hM hok hfit
      have hg0 : g.length ≤ regs.toNat := by have := HFIT.out.len; have := HOK.out.i2; omega
      have HR := Lib.hid (startG_rect (regs := regs.toNat) HFIT.out.rect)
      have HL' := Lib.hid (startG_len (n := (g.getD 0 []).length) hg0)
      have HBG := Lib.hid (startG_bd (regs := regs.toNat) (n := (g.getD 0 []).length) HBD.out)
      have hm := HFIT.out.m
      obtain ⟨m, hmE⟩ : ∃ m, (g.getD 0 []).length = m := ⟨_, rfl⟩
      have HME := Lib.hid hmE
      rw [hmE] at hm HM HR HL' HBG
      obtain ⟨G, hG⟩ : ∃ G, startG g regs.toNat m = G := ⟨_, rfl⟩
      rw [hG] at HM HR HL' HBG
      have HGG := Lib.hid hG
      clear hG hg0 hmE HS
      have hcl := HOK.out.c1
      have hbase : w.heap.size ≤ w7.heap.size := by have h5 := HB27.out.size; have h6 := hB.size; omega
      have HRR := Lib.hid (show (rn < code.length ∧ (∃ h, after code G rn = some h) ∧ after code G (rn + 1) = none ∧ Value.slice ra rl rcp = .slice none 0 0 ∧ rs = 20) ∨ (rn = code.length ∧ rs = 0 ∧ ∃ h, after code G code.length = some h ∧ GridV w7 (.slice ra rl rcp) (outsG outs h)) from by
        rcases HRR8.out with h | h | h | h
        · exact absurd HOK.out h.1
        · exact absurd HFIT.out h.2.1
        · rw [HME.out, HGG.out] at h
          exact .inl ⟨h.2.2.1, h.2.2.2.1, h.2.2.2.2.1, h.2.2.2.2.2.1, h.2.2.2.2.2.2⟩
        · rw [HME.out, HGG.out] at h
          obtain ⟨h1, h2, h3, h4, h, h5, h6⟩ := h
          exact .inr ⟨h3, h4, h, h5, (h6.mono fun u x hr => (hr.row.rebase (Nat.zero_le _))).rebase (Nat.zero_le _)⟩)
      have hrn : rn ≤ code.length := by rcases HRR.out with h | h <;> omega
      have HSOME := Lib.hid (show ∀ n, n ≤ rn → after code G n ≠ none from fun n hn e => by
        have h1 := after_mono e hn
        rcases HRR.out with ⟨_, ⟨h, h2⟩, _⟩ | ⟨h2, _, h, h3, _⟩
        · rw [h1] at h2; cases h2
        · rw [h2] at h1; rw [h1] at h3; cases h3)
      clear HRR8 HNR
      go_wp2
      go_loopw [45] (fun x wr => ∃ n : Nat, n ≤ rn ∧ x = .int .i64 n ∧ Hid (∃ h, after code G n = some h ∧ Mach w7.heap.size wr b rb rc ins regs code outs h n) ∧ Below w7.heap.size w7 wr) (fun x _ => code.length + 2 - (intOf x).toNat)
      case atStart => exact ⟨0, Nat.zero_le _, rfl, Lib.hid ⟨G, rfl, HM.out⟩, HB78.out⟩
      case round =>
        obtain ⟨n, hn, rfl, hrel, hBr8⟩ := hrel
        obtain ⟨h, hh, hM⟩ := hrel.out
        have HH := Lib.hid (And.intro hh hM)
        have hBr : Below w.heap.size w wr := bthen (bthen hB HB27.out) hBr8
        have hBw := Below.refl wr.heap.size wr
        have hn2 : n ≤ code.length := by omega
        have hrect := after_rect HR.out HL'.out (fun q hq => by have := (ins_of HOK.out hq).a1; have := (ins_of HOK.out hq).a0; omega) hn2 hh
        have hlen := (after_len hh).trans HL'.out
        have hbd := after_bd HBG.out (cs_of HOK.out) hn2 hh
        have HGO := Lib.hid (And.intro hrect (And.intro hlen hbd))
        clear hrel hh hM hrect hlen hbd
        by_cases hlt : n < rn
        · have sc := fun W (k : Below wr.heap.size wr W) => step_c W (HH.out.2.keep k) (by omega) hcl (by rw [HGO.out.2.1]; exact ins_of HOK.out (by omega)) HGO.out.1 hm (HGO.out.2.2.mono (show 64 + 65 * n ≤ 4294967296 by omega)) (Nat.le_refl _) (HT.out.keep (bthen hBr k))
          go_wp2_with fail
          refine (sc _ (by repeat (first | exact Below.refl _ _ | exact hBw | refine Below.drew ?_ | refine below_drewN ?_ _ | refine bset ?_ (by simp <;> omega) _ | refine bal ?_ _))).mono ?_
          rintro e w9 hp
          unfold StepPost at hp
          cases hs : stepR (code.getD n default) (h.getD (code.getD n default).a.toNat []) (h.getD (code.getD n default).b.toNat []) with
          | none => exact absurd (by rw [after_succ HH.out.1, hs]; rfl) (HSOME.out (n + 1) (by omega))
          | some r =>
            rw [hs] at hp
            obtain ⟨rfl, hM5, hO5⟩ := hp
            have HNX := Lib.hid (show ∃ h, after code G (n + 1) = some h ∧ Mach w7.heap.size w9 b rb rc ins regs code outs h (n + 1) from ⟨_, by rw [after_succ HH.out.1, hs]; rfl, hM5⟩)
            have hB5 : Below w7.heap.size w7 w9 := out_below hBr8 hO5 (fun q hq => by rcases hq with rfl | rfl; exact hM5.lo; exact hM5.rlo)
            clear hs sc hM5 hO5
            go_wp2
            exact ⟨⟨n + 1, by omega, by go_num, HNX, hB5⟩, by simp [intOf]; omega⟩
        · obtain rfl : n = rn := by omega
          rcases HRR.out with ⟨h1, -, h3, h4, rfl⟩ | ⟨rfl, rfl, h0, h3, h4⟩
          · obtain ⟨rfl, rfl, rfl⟩ := Value.slice.inj h4
            have sc := fun W (k : Below wr.heap.size wr W) => step_c W (HH.out.2.keep k) h1 hcl (by rw [HGO.out.2.1]; exact ins_of HOK.out h1) HGO.out.1 hm (HGO.out.2.2.mono (show 64 + 65 * n ≤ 4294967296 by omega)) (Nat.le_refl _) (HT.out.keep (bthen hBr k))
            have hs : stepR (code.getD n default) (h.getD (code.getD n default).a.toNat []) (h.getD (code.getD n default).b.toNat []) = none := by
              have h5 := after_succ HH.out.1
              rw [h3] at h5
              exact Option.map_eq_none_iff.1 h5.symm
            have sc2 : ∀ W, Below wr.heap.size wr W → Calls Tryz.prog 29 #[.pointer (some ⟨b, 0, none⟩)] W fun e W' => e = .returned (.int .i64 20) ∧ Below W.heap.size W W' := fun W k => (sc W k).mono fun e W' hp => by unfold StepPost at hp; rw [hs] at hp; exact hp
            have ox := fun W (k : Below wr.heap.size wr W) => outs_no W (HH.out.2.keep k) h1
            have nxt := fun W (k : Below wr.heap.size wr W) => next_c W (HH.out.2.keep k)
            have hq : ∀ w, (binOp .eql 54 (.slice none 0 0) (.slice none 0 0)).run Tryz.prog w = .ok (.bool true) w := fun w => Lib.run_eql_slice_nil w _ _ none 0 0 0 0 Tryz.underlying54
            clear hs sc h3 h4
            go_wp2_with fail
            refine (sc2 _ (by repeat (first | exact Below.refl _ _ | exact hBw | refine Below.drew ?_ | refine below_drewN ?_ _ | refine bset ?_ (by simp <;> omega) _ | refine bal ?_ _))).mono ?_
            rintro e w9 ⟨rfl, hb9⟩
            have hB9 : Below wr.heap.size wr w9 := bthen (by repeat (first | exact Below.refl _ _ | exact hBw | refine Below.drew ?_ | refine below_drewN ?_ _ | refine bset ?_ (by simp <;> omega) _ | refine bal ?_ _)) hb9
            go_wp2_with fail
            refine (ox _ (by repeat (first | exact Below.refl _ _ | exact hB9 | refine Below.drew ?_ | refine below_drewN ?_ _ | refine bset ?_ (by simp <;> omega) _ | refine bal ?_ _))).mono ?_
            rintro e w10 ⟨rfl, hb10⟩
            have hB10 : Below wr.heap.size wr w10 := bthen (by repeat (first | exact Below.refl _ _ | exact hB9 | refine Below.drew ?_ | refine below_drewN ?_ _ | refine bset ?_ (by simp <;> omega) _ | refine bal ?_ _)) hb10
            go_wp2_with fail
            refine (nxt _ (by repeat (first | exact Below.refl _ _ | exact hB10 | refine Below.drew ?_ | refine below_drewN ?_ _ | refine bset ?_ (by simp <;> omega) _ | refine bal ?_ _))).mono ?_
            rintro e w11 ⟨rfl, hb11⟩
            have hB11 : Below wr.heap.size wr w11 := bthen (by repeat (first | exact Below.refl _ _ | exact hB10 | refine Below.drew ?_ | refine below_drewN ?_ _ | refine bset ?_ (by simp <;> omega) _ | refine bal ?_ _)) hb11
            go_wp2_with fail
            refine (sc2 _ (by repeat (first | exact Below.refl _ _ | exact hB11 | refine Below.drew ?_ | refine below_drewN ?_ _ | refine bset ?_ (by simp <;> omega) _ | refine bal ?_ _))).mono ?_
            rintro e w12 ⟨rfl, hb12⟩
            have hB12 : Below wr.heap.size wr w12 := bthen (by repeat (first | exact Below.refl _ _ | exact hB11 | refine Below.drew ?_ | refine below_drewN ?_ _ | refine bset ?_ (by simp <;> omega) _ | refine bal ?_ _)) hb12
            go_wp2
            go_ret
            exact ⟨rfl, bthen hBr hB12⟩
          · have hhE : h = h0 := by have h5 := HH.out.1; rw [h3] at h5; cases h5; rfl
            subst hhE
            have HRES := Lib.hid (h4.keep (prs_row lims_int _ _) hBr8)
            have sc2 := fun W (k : Below wr.heap.size wr W) => step_end W (HH.out.2.keep k)
            have hos : ∀ q, q < outs.length → 0 ≤ outs.getD q 0 ∧ outs.getD q 0 < h.length := fun q hq => by
              obtain ⟨h5, h6⟩ := HOK.out.os q hq
              rw [HGO.out.2.1]; have := HOK.out.i1; have := HOK.out.i2; omega
            have ox := fun W (k : Below wr.heap.size wr W) => outs_c W m (HH.out.2.keep k) HGO.out.1 hm hos HOK.out.o2
            have nxt := fun W (k : Below wr.heap.size wr W) => next_c W (HH.out.2.keep k)
            have dx := fun W (k : Below wr.heap.size wr W) => done_c W (HH.out.2.keep k)
            rw [show doneB code.length code.length = true by simp [doneB]] at dx
            have hol : (outsG outs h).length ≤ 128 := by have := HOK.out.o2; simpa [outsG] using this
            have eqx := fun vl vw W (k1 : GridV W vl (outsG outs h)) (k2 : GridV W vw (outsG outs h)) => eqRowI_c vl vw (outsG outs h) (64 + 65 * code.length) W k1 k2 (outsG_bd HGO.out.2.2 outs) (by omega) (by omega) (fun j hj => by rw [outsG_len HGO.out.1 hos j hj]; omega)
            clear h3 h4 hos
            go_wp2_with fail
            refine (sc2 _ (by repeat (first | exact Below.refl _ _ | exact hBw | refine Below.drew ?_ | refine below_drewN ?_ _ | refine bset ?_ (by simp <;> omega) _ | refine bal ?_ _))).mono ?_
            rintro e w9 ⟨rfl, hb9⟩
            have hB9 : Below wr.heap.size wr w9 := bthen (by repeat (first | exact Below.refl _ _ | exact hBw | refine Below.drew ?_ | refine below_drewN ?_ _ | refine bset ?_ (by simp <;> omega) _ | refine bal ?_ _)) hb9
            go_wp2_with fail
            refine (ox _ (by repeat (first | exact Below.refl _ _ | exact hB9 | refine Below.drew ?_ | refine below_drewN ?_ _ | refine bset ?_ (by simp <;> omega) _ | refine bal ?_ _))).mono ?_
            rintro e w10 ⟨v10, rfl, hO10⟩
            have hB10 : Below wr.heap.size wr w10 := bthen (by repeat (first | exact Below.refl _ _ | exact hB9 | refine Below.drew ?_ | refine below_drewN ?_ _ | refine bset ?_ (by simp <;> omega) _ | refine bal ?_ _)) hO10.bel
            have HG10 := Lib.hid hO10.gridV
            obtain ⟨a10, c10, rfl⟩ := hO10.ex
            clear hO10 ox
            go_wp2_with fail
            refine (dx _ (by repeat (first | exact Below.refl _ _ | exact hB10 | refine Below.drew ?_ | refine below_drewN ?_ _ | refine bset ?_ (by simp <;> omega) _ | refine bal ?_ _))).mono ?_
            rintro e w11 ⟨rfl, hb11⟩
            have hB11 : Below wr.heap.size wr w11 := bthen (by repeat (first | exact Below.refl _ _ | exact hB10 | refine Below.drew ?_ | refine below_drewN ?_ _ | refine bset ?_ (by simp <;> omega) _ | refine bal ?_ _)) hb11
            go_wp2_with fail
            refine (nxt _ (by repeat (first | exact Below.refl _ _ | exact hB11 | refine Below.drew ?_ | refine below_drewN ?_ _ | refine bset ?_ (by simp <;> omega) _ | refine bal ?_ _))).mono ?_
            rintro e w12 ⟨rfl, hb12⟩
            have hB12 : Below wr.heap.size wr w12 := bthen (by repeat (first | exact Below.refl _ _ | exact hB11 | refine Below.drew ?_ | refine below_drewN ?_ _ | refine bset ?_ (by simp <;> omega) _ | refine bal ?_ _)) hb12
            go_wp2_with fail
            refine (sc2 _ (by repeat (first | exact Below.refl _ _ | exact hB12 | refine Below.drew ?_ | refine below_drewN ?_ _ | refine bset ?_ (by simp <;> omega) _ | refine bal ?_ _))).mono ?_
            rintro e w13 ⟨rfl, hb13⟩
            have hB13 : Below wr.heap.size wr w13 := bthen (by repeat (first | exact Below.refl _ _ | exact hB12 | refine Below.drew ?_ | refine below_drewN ?_ _ | refine bset ?_ (by simp <;> omega) _ | refine bal ?_ _)) hb13
            go_wp2_with fail
            refine (eqx _ _ _ (HRES.out.keep (prs_row lims_int _ _) hB13) (HG10.out.keep (prs_row lims_int _ _) (bthen hb11 (bthen hb12 hb13)))).mono ?_
            rintro e w14 ⟨rfl, hb14⟩
            have hB14 : Below wr.heap.size wr w14 := bthen (by repeat (first | exact Below.refl _ _ | exact hB13 | refine Below.drew ?_ | refine below_drewN ?_ _ | refine bset ?_ (by simp <;> omega) _ | refine bal ?_ _)) hb14
            go_wp2
            go_ret
            exact ⟨rfl, bthen hBr hB14⟩
end Go.Proofs.YtannhpadoooedaaGreatDoor
/- Arguments as they come in, opened: a program; rows of int64; what their bulk gives. -/
namespace Go.Proofs.YtannhpadoooedaaGreatDoor
open Go.ChangeShapes Go.WideShapes Go.ChangeAt Go.RowKit Go.Joins Go.Deep
set_option linter.unusedVariables false
set_option linter.unusedSimpArgs false
namespace bulks
theorem one_le {H : Type} (d : DataW H) : 1 ≤ Rows.uptoBulk d := by
  cases d with
  | lit l => cases l <;> simp [Rows.uptoBulk]
  | nil => simp [Rows.uptoBulk]
  | ptr d => simp [Rows.uptoBulk]
  | slice elems spare => simp [Rows.uptoBulk]
  | agg parts => simp [Rows.uptoBulk]
  | iface t d => simp [Rows.uptoBulk]
  | map entries => simp [Rows.uptoBulk]
  | held h => simp [Rows.uptoBulk]
theorem length_le {H : Type} (l : List (DataW H)) : l.length ≤ Rows.uptoBulkAll l := by
  induction l with
  | nil => simp [Rows.uptoBulkAll]
  | cons x r ih => have := one_le x; simp only [Rows.uptoBulkAll, List.length_cons]; omega
/-- a list made by a function: its parts' sizes, and how many they are -/
theorem sum_le {H : Type} {α : Type} (f : α → DataW H) (n : α → Nat) : ∀ (l : List α), (∀ x ∈ l, n x + 1 ≤ Rows.uptoBulk (f x)) → (l.map n).sum + l.length ≤ Rows.uptoBulkAll (l.map f)
  | [], _ => by simp [Rows.uptoBulkAll]
  | x :: r, h => by
    have h1 := sum_le f n r (fun y hy => h y (List.mem_cons_of_mem _ hy))
    have h2 := h x (List.mem_cons_self ..)
    simp only [List.map_cons, List.sum_cons, List.length_cons, Rows.uptoBulkAll]; omega
end bulks
section
variable {H : Type} {enc : TypeId × Value → H} {P : Program} {w : World} {base : Nat} {spare : Nat → Bool} {held : Bool}
theorem open_slice_fields {t e : TypeId} {fs : Array Field} {fuel : Nat} {cs : List Value} {x : DataW H × List MemPlace} (ht : P.underlying t = some (.slice e)) (he : P.underlying e = some (.struct fs))
    (hone : oneCellFields P fs = true) (hC : P.cellsOf e = fs.size) (h : DataW.trod enc P w base spare held fuel t cs = some x) :
    (cs = [.slice none 0 0] ∧ x = (.nil, [])) ∨
    ∃ (a : Addr) (len cap m : Nat) (D : Nat → DataW H) (Pl : Nat → List MemPlace), cs = [.slice (some a) len cap] ∧ base ≤ a.block ∧ len ≤ cap ∧ cap ≤ maxLen ∧ m = (if spare a.block then cap else len) ∧
      x = (.slice ((List.range len).map D) ((List.range (m - len)).map fun j => D (len + j)), MemPlace.row a (m * fs.size) ++ (List.range m).flatMap Pl) ∧
      ∀ i, i < m → ∃ (ys : List (DataW H × List MemPlace)) (n : Nat), D i = .agg (ys.map (·.1)) ∧ Pl i = ys.flatMap (·.2) ∧ ys.length = fs.size ∧
        ∀ (j : Nat) (f : Field), fs[j]? = some f → ∃ (v : Value) (y : DataW H × List MemPlace), w.cell? (a.add (i * fs.size + j)) = some v ∧ ys[j]? = some y ∧ DataW.trod enc P w base spare held n f.type [v] = some y := by
  rcases open_slice ht h with h0 | ⟨a, len, cap, m, n, D, Pl, hcs, hb, hl, hm, hmm, hx, hi⟩
  · exact .inl h0
  · refine .inr ⟨a, len, cap, m, D, Pl, hcs, hb, hl, hm, hmm, by rw [hC] at hx; exact hx, fun i him => ?_⟩
    obtain ⟨cs', hc, ht'⟩ := hi i him
    rw [hC] at hc
    obtain ⟨ys, n', hn', hy, hlen, hyl, hf⟩ := DataW.trod_struct he ht'
    obtain ⟨_, hcl, hat⟩ := World.cells?_some hc
    simp only [Prod.mk.injEq] at hy
    refine ⟨ys, n', hy.1, hy.2, hyl, fun j f hj => ?_⟩
    obtain ⟨ho, hk⟩ := hone_of hone j f hj
    have hjl : j < fs.size := (Array.getElem?_eq_some_iff.1 hj).1
    have hcell := hat j hjl
    have hv : cs'[j]? = some (cs'[j]'(by omega)) := List.getElem?_eq_getElem (by omega)
    have h1 := hf j f hj
    rw [ho, hk] at h1
    have hone' : (cs'.drop j).take 1 = [cs'[j]'(by omega)] := by
      rw [List.drop_eq_getElem_cons (by omega)]
      rfl
    rw [hone'] at h1
    have hys : ys[j]? = some (ys[j]'(by omega)) := List.getElem?_eq_getElem (by omega)
    refine ⟨_, _, ?_, hys, h1.trans hys⟩
    rw [← Go.Deep.add_add, hcell, hv]
end
/-- what an address is, of which a cell is known -/
theorem addr_plain {w : World} {a : Addr} {v : Value} (h : w.cell? a = some v) : a = ⟨a.block, a.off, none⟩ := by
  obtain ⟨b, o, s⟩ := a
  cases s with
  | none => rfl
  | some s =>
    simp only [World.cell?] at h
    split at h <;> simp at h
theorem add_plain (b o k : Nat) : (⟨b, o, none⟩ : Addr).add k = ⟨b, o + k, none⟩ := by
  unfold Addr.add; split
  · subst_vars; rfl
  · rfl
/-- an address, the first cell behind which is known -/
theorem plain_at {w : World} {a : Addr} {v : Value} (h : w.cell? (a.add 0) = some v) : ∃ b o, a = ⟨b, o, none⟩ := by
  have h2 : w.cell? a = some v := by simpa [Addr.add] using h
  exact ⟨_, _, addr_plain h2⟩
section
variable {H : Type} {enc : TypeId × Value → H} {W : World} {b0 : Nat} {r : Reach} {v : Value} {d : DataW H} {p : List MemPlace}
theorem i64_of {n : Int} (h : (Lit.int .i64 n).wf = true) : I64 n := by
  have h1 := (Lit.wf_int_iff .i64 n).1 h
  have e1 : IntKind.i64.min = -9223372036854775808 := by decide
  have e2 : IntKind.i64.max = 9223372036854775807 := by decide
  rw [e1, e2] at h1
  exact h1
set_option maxRecDepth 100000 in
theorem open_i64rows (hv : Value.okWide Tryz.prog W r b0 52 v) (h : DataW.Trod enc Tryz.prog W 0 (fun _ => true) true 52 v d p) :
    ∃ g, GridI W v g ∧ sumG g + g.length ≤ Rows.uptoBulk d := by
  obtain ⟨a, n, cap, rfl⟩ := okWide_slice Tryz.underlying52 hv
  obtain ⟨fuel, hf⟩ := h
  rcases open_int_rows Tryz.underlying52 Tryz.underlying26 Tryz.underlying2 (by kernel_rfl) (by kernel_rfl) hf with ⟨hcs, hx⟩ | ⟨x, len, c, A, L, C, Z, hcs, _, hl, hm, hx, hr⟩
  · simp [Value.cells] at hcs
    obtain ⟨rfl, rfl, rfl⟩ := hcs
    exact ⟨[], ⟨_, _, rfl, fun k hk => absurd hk (by simp)⟩, by simp [sumG]⟩
  · simp [Value.cells] at hcs
    obtain ⟨rfl, rfl, rfl⟩ := hcs
    simp only [Prod.mk.injEq] at hx
    have hlen : ∀ r, r < n → ((Z r).take (L r)).length = L r := fun r hr' => by
      obtain ⟨_, h1, _, h2, _⟩ := hr r (by omega)
      rw [List.length_take]; omega
    refine ⟨(List.range n).map fun r => (Z r).take (L r), ⟨_, _, by rw [List.length_map, List.length_range], fun k hk => ?_⟩, ?_⟩
    · rw [List.length_map, List.length_range] at hk
      obtain ⟨h1, h2, h3, h4, h5, h6, h7⟩ := hr k (by omega)
      obtain ⟨b, o, rfl⟩ := plain_at (hr 0 (by omega)).1
      rw [add_plain] at h1
      refine ⟨b, o, _, rfl, h1, ?_⟩
      have e : ((List.range n).map fun r => (Z r).take (L r)).getD k [] = (Z k).take (L k) := by simp [hk]
      rw [e]
      refine ⟨A k, C k, by rw [hlen k hk], fun j hj => ?_⟩
      rw [hlen k hk] at hj
      cases hA : A k with
      | none => have := h6 hA; omega
      | some a' =>
        obtain ⟨_, h8⟩ := h7 a' hA
        have h9 := h8 j (by omega)
        obtain ⟨b', o', rfl⟩ := plain_at (h8 0 (by omega))
        rw [add_plain] at h9
        have e2 : ((Z k).take (L k)).getD j 0 = (Z k).getD j 0 := by
          rw [List.getD_eq_getElem?_getD, List.getD_eq_getElem?_getD, List.getElem?_take_of_lt hj]
        rw [e2]
        refine ⟨b', o', rfl, h9, ?_⟩
        refine i64_of (h5 _ ?_)
        rw [List.getD_eq_getElem?_getD, List.getElem?_eq_getElem (by omega)]
        exact List.getElem_mem _
    · rw [hx.1]
      have h0 : ∀ r ∈ List.range n, L r + 1 ≤ Rows.uptoBulk (intRow (H := H) .i64 (A r) (L r) (Z r)) := fun r hr' => by
        have hr2 : r < n := by simpa using hr'
        obtain ⟨h1, h2, h3, h4, h5, h6, h7⟩ := hr r (by omega)
        cases hA : A r with
        | none => have := h6 hA; simp [intRow, Rows.uptoBulk]; omega
        | some a' =>
          have := bulks.length_le (H := H) (lits .i64 ((Z r).take (L r)))
          simp only [lits, List.length_map, List.length_take] at this
          simp only [intRow, Rows.uptoBulk, lits]
          omega
      have h1 := bulks.sum_le (fun r => intRow (H := H) .i64 (A r) (L r) (Z r)) L (List.range n) h0
      have h2 : sumG ((List.range n).map fun r => (Z r).take (L r)) = ((List.range n).map L).sum := by
        unfold sumG
        rw [List.map_map]
        congr 1
        apply List.map_congr_left
        intro r hr'
        exact hlen r (by simpa using hr')
      simp only [Rows.uptoBulk]
      rw [h2, List.length_map, List.length_range]
      rw [List.length_range] at h1
      omega
/-- a list of ints that came in, inside a struct -/
theorem open_intsV {fuel : Nat} {v : Value} {y : DataW H × List MemPlace} (h : DataW.trod enc Tryz.prog W 0 (fun _ => true) true fuel 23 [v] = some y) :
    ∃ a c L, v = .slice a (List.length L) c ∧ IntsV W a c L ∧ (a = none → L = []) ∧ L.length ≤ Rows.uptoBulk y.1 := by
  rcases open_ints Tryz.underlying23 Tryz.underlying3 (by kernel_rfl) h with ⟨hcs, rfl⟩ | ⟨a, len, cap, zs, hcs, _, hl, hm, hz, rfl, hc, hw⟩
  · simp at hcs; subst hcs
    exact ⟨_, _, [], rfl, .inl rfl, fun _ => rfl, by simp⟩
  · simp at hcs; subst hcs
    simp only [if_true] at hz
    have hlen : (zs.take len).length = len := by rw [List.length_take]; omega
    refine ⟨some a, cap, zs.take len, by rw [hlen], ?_, (fun e => by cases e), ?_⟩
    · by_cases h0 : len = 0
      · exact .inl (by subst h0; simp)
      · obtain ⟨b, o, rfl⟩ := plain_at (hc 0 (by omega))
        refine .inr ⟨b, o, rfl, by rw [hlen]; exact hl, fun k hk => ?_⟩
        rw [hlen] at hk
        have h9 := hc k (by omega)
        rw [add_plain] at h9
        rw [h9, List.getD_eq_getElem?_getD, List.getD_eq_getElem?_getD, List.getElem?_take_of_lt hk]
    · have := bulks.length_le (H := H) (lits .i64 (zs.take len))
      simp only [lits, List.length_map] at this
      simp only [Rows.uptoBulk, lits]; omega
theorem cells_ins : Tryz.prog.cellsOf 76 = 5 := by kernel_rfl
/-- a list of instructions that came in -/
theorem open_insV {fuel : Nat} {v : Value} {y : DataW H × List MemPlace} (h : DataW.trod enc Tryz.prog W 0 (fun _ => true) true fuel 22 [v] = some y) :
    ∃ a c L, v = .slice a (List.length L) c ∧ InsV W a c L ∧ (a = none → L = []) ∧ L.length ≤ Rows.uptoBulk y.1 := by
  rcases open_slice_fields Tryz.underlying22 Tryz.underlying76 (by kernel_rfl) cells_ins h with ⟨hcs, rfl⟩ | ⟨x, n, c, m, D, Pl, hcs, _, hl, hm, hmm, rfl, hcell⟩
  · simp at hcs; subst hcs
    exact ⟨_, _, [], rfl, .inl rfl, fun _ => rfl, by simp⟩
  · simp at hcs; subst hcs
    simp only [if_true] at hmm
    subst hmm
    have hall : ∀ i, i < m → ∃ q : Ins, W.cell? (x.add (i * 5)) = some (.int .i64 q.op) ∧ W.cell? (x.add (i * 5 + 1)) = some (.int .i64 q.to) ∧ W.cell? (x.add (i * 5 + 2)) = some (.int .i64 q.a) ∧ W.cell? (x.add (i * 5 + 3)) = some (.int .i64 q.b) ∧ W.cell? (x.add (i * 5 + 4)) = some (.int .i64 q.c) := by
      intro i hi
      obtain ⟨ys, k, _, _, _, hf⟩ := hcell i hi
      obtain ⟨u0, y0, c0, _, t0⟩ := hf 0 _ rfl
      obtain ⟨u1, y1, c1, _, t1⟩ := hf 1 _ rfl
      obtain ⟨u2, y2, c2, _, t2⟩ := hf 2 _ rfl
      obtain ⟨u3, y3, c3, _, t3⟩ := hf 3 _ rfl
      obtain ⟨u4, y4, c4, _, t4⟩ := hf 4 _ rfl
      obtain ⟨a0, e0, _, _⟩ := DataW.trod_int Tryz.underlying3 t0
      obtain ⟨a1, e1, _, _⟩ := DataW.trod_int Tryz.underlying3 t1
      obtain ⟨a2, e2, _, _⟩ := DataW.trod_int Tryz.underlying3 t2
      obtain ⟨a3, e3, _, _⟩ := DataW.trod_int Tryz.underlying3 t3
      obtain ⟨a4, e4, _, _⟩ := DataW.trod_int Tryz.underlying3 t4
      simp at e0 e1 e2 e3 e4
      subst e0 e1 e2 e3 e4
      exact ⟨⟨a0, a1, a2, a3, a4⟩, c0, c1, c2, c3, c4⟩
    have hf : ∃ f : Nat → Ins, ∀ i, i < m → W.cell? (x.add (i * 5)) = some (.int .i64 (f i).op) ∧ W.cell? (x.add (i * 5 + 1)) = some (.int .i64 (f i).to) ∧ W.cell? (x.add (i * 5 + 2)) = some (.int .i64 (f i).a) ∧ W.cell? (x.add (i * 5 + 3)) = some (.int .i64 (f i).b) ∧ W.cell? (x.add (i * 5 + 4)) = some (.int .i64 (f i).c) := by
      refine ⟨fun i => if hi : i < m then (hall i hi).choose else default, fun i hi => ?_⟩
      simp only [dif_pos hi]
      exact (hall i hi).choose_spec
    obtain ⟨f, hf⟩ := hf
    refine ⟨some x, m, (List.range n).map f, by simp, ?_, (fun e => by cases e), ?_⟩
    · by_cases h0 : n = 0
      · exact .inl (by subst h0; simp)
      · obtain ⟨b, o, rfl⟩ := plain_at (by have := (hf 0 (by omega)).1; simpa using this)
        refine .inr ⟨b, o, rfl, by simpa using hl, fun k hk => ?_⟩
        rw [List.length_map, List.length_range] at hk
        obtain ⟨c0, c1, c2, c3, c4⟩ := hf k (by omega)
        rw [add_plain] at c0 c1 c2 c3 c4
        have e : ((List.range n).map f).getD k default = f k := by simp [hk]
        rw [e]
        exact ⟨c0, c1, c2, c3, c4⟩
    · have := bulks.length_le (H := H) ((List.range n).map D)
      simp only [List.length_map, List.length_range] at this ⊢
      simp only [Rows.uptoBulk]; omega
theorem cells_prog : Tryz.prog.cellsOf 25 = 4 := by kernel_rfl
set_option maxRecDepth 100000 in
theorem open_prog (hv : Value.okWide Tryz.prog W r b0 25 v) (h : DataW.Trod enc Tryz.prog W 0 (fun _ => true) true 25 v d p) :
    ∃ ins regs ca oa cc oc code outs, v = .agg #[.int .i64 ins, .int .i64 regs, .slice ca (List.length code) cc, .slice oa (List.length outs) oc] ∧ InsV W ca cc code ∧ IntsV W oa oc outs ∧ (ca = none → code = []) ∧ (oa = none → outs = []) ∧ code.length + outs.length ≤ Rows.uptoBulk d := by
  obtain ⟨v0, v1, v2, v3, y0, y1, y2, y3, n, rfl, rfl, rfl, t0, t1, t2, t3⟩ := open_agg4 Tryz.underlying25 (by kernel_rfl) cells_prog hv h
  obtain ⟨a0, e0, rfl, _⟩ := DataW.trod_int Tryz.underlying3 t0
  obtain ⟨a1, e1, rfl, _⟩ := DataW.trod_int Tryz.underlying3 t1
  simp at e0 e1
  subst e0 e1
  obtain ⟨ca, cc, code, rfl, hc, hcn, hcl⟩ := open_insV t2
  obtain ⟨oa, oc, outs, rfl, ho, hon, hol⟩ := open_intsV t3
  exact ⟨a0, a1, ca, oa, cc, oc, code, outs, rfl, hc, ho, hcn, hon, by simp only [Rows.uptoBulk, Rows.uptoBulkAll]; omega⟩
end
end Go.Proofs.YtannhpadoooedaaGreatDoor
