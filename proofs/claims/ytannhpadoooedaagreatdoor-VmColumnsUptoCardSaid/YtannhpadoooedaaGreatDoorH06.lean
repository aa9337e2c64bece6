/- Texts of this seat, laid together: ExE, VcA. Each opens with its own remark, which says what it proves, and under which conditions. -/
import Derived.Test.YtannhpadoooedaaGreatDoorH05
import Derived.Test.YtannhpadoooedaaGreatDoorH01
import Derived.Test.YtannhpadoooedaaGreatDoorG37
import Derived.Test.YtannhpadoooedaaGreatDoorG27
import Derived.Test.YtannhpadoooedaaGreatDoorH02
import Derived.Test.YtannhpadoooedaaGreatDoorG39
import Derived.Deep.LoopGhost
set_option linter.unusedVariables false
set_option linter.unusedSimpArgs false
/- exact: right, Run. -/
namespace Go.Proofs.YtannhpadoooedaaGreatDoor
open Num
open Go.ChangeShapes Go.WideShapes Go.ChangeAt Go.RowKit
set_option linter.unusedVariables false
set_option linter.unusedSimpArgs false
attribute [local go_sem ↓] Go.wp_at_zero Go.wp_at_succ
/-- what right answers -/
def RightE (ins regs : Int) (code : List Ins) (outs : List Int) (n : Int) (w : World) (e : Ending) (w' : World) : Prop :=
  ((¬ ProgOk ins regs code outs ∧ e = .returned (.int .i64 80)) ∨ (ProgOk ins regs code outs ∧ n ≠ ins ∧ e = .returned (.int .i64 5)) ∨ (ProgOk ins regs code outs ∧ n = ins ∧ e = .returned (.int .i64 0))) ∧ Below w.heap.size w w'
set_option maxRecDepth 100000 in
set_option maxHeartbeats 2000000 in
theorem right_c (ins regs : Int) (ca oa : Option Addr) (cc oc : Nat) (code : List Ins) (outs : List Int) (n : Int) (w : World) (hc : InsV w ca cc code) (ho : IntsV w oa oc outs) :
    Calls Tryz.prog 56 #[.agg #[.int .i64 ins, .int .i64 regs, .slice ca code.length cc, .slice oa outs.length oc], .int .i64 n] w (RightE ins regs code outs n w) := by
  have kc := fun W (h : Below w.heap.size w W) => check_c ins regs ca oa cc oc code outs W (hc.keep h) (ho.keep h)
  clear hc ho
  have hB := Below.refl w.heap.size w
  go_enter Tryz.func56, Tryz.ntmps56
  go_wp2_with fail
  refine (kc _ (by repeat (first | exact Below.refl _ _ | exact hB | refine Below.drew ?_ | refine below_drewN ?_ _ | refine bset ?_ (by simp <;> omega) _ | refine bal ?_ _))).mono ?_
  rintro e w1 ⟨r, s, rfl, hp, hb1⟩
  have p0 : w1.cell? ⟨w.heap.size, 0, none⟩ = some (.int .i64 ins) := bkeep hb1 (by first | assumption | exact cell_new (by with_reducible first | rfl | (simp; done) | (simp; omega)) rfl | (repeat (first | assumption | exact cell_new (by with_reducible first | rfl | (simp; done) | (simp; omega)) rfl | refine cell_alloc ?_ _ | refine cell_drew ?_ | refine cell_drewN ?_ _ | refine cell_far ?_ (by simp) _ | (refine cell_far ?_ (by simp <;> omega) _))) | simp [go_sem, *])
  have zp0 := cell_lt p0
  have hB : Below w.heap.size w w1 := bthen (by repeat (first | exact Below.refl _ _ | exact hB | refine Below.drew ?_ | refine below_drewN ?_ _ | refine bset ?_ (by simp <;> omega) _ | refine bal ?_ _)) hb1
  have hz : w.heap.size ≤ w1.heap.size := hB.size
  clear kc
  rcases hp with ⟨hok, rfl, rfl⟩ | ⟨hno, rfl⟩
  · have HOK := Lib.hid hok
    clear hok
    by_cases e : n = ins
    · have HE := Lib.hid e
      have hq : (n != ins) = false := by simpa using e
      clear e
      go_wp2
      go_ret
      exact ⟨.inr (.inr ⟨HOK.out, HE.out, rfl⟩), hB⟩
    · have HE := Lib.hid e
      have hq : (n != ins) = true := by simpa using e
      clear e
      go_wp2
      go_ret
      exact ⟨.inr (.inl ⟨HOK.out, HE.out, rfl⟩), hB⟩
  · have HNO := Lib.hid hno
    clear hno
    go_wp2
    go_ret
    exact ⟨.inl ⟨HNO.out, rfl⟩, hB⟩
/-- run's answer, an int -/
theorem runNRes {code : List Ins} {r : List Int} {rb : Nat} {w : World} {e : Ending} {w' : World} (h : RunNPost code r rb w e w') : (∃ q : Int, e = .returned (.int .i64 q) ∧ ((∃ (m : Nat) (s : List Int), m < code.length ∧ afterN code r m = some s ∧ afterN code r (m + 1) = none ∧ q = m) ∨ (∃ s, afterN code r code.length = some s ∧ q = -1 ∧ IntsF IsInt w' rb 0 r.length (fun j => s.getD j 0) ∧ typOf w' rb = some 48))) ∧ Out (fun k => k = rb) w w' := by
  obtain ⟨h, hO⟩ := h
  refine ⟨?_, hO⟩
  rcases h with ⟨m, s, h1, h2, h3, rfl⟩ | ⟨s, h1, rfl, h2, h3⟩
  · exact ⟨_, rfl, .inl ⟨m, s, h1, h2, h3, rfl⟩⟩
  · exact ⟨_, rfl, .inr ⟨s, h1, rfl, h2, h3⟩⟩
/-- what Run answers -/
def ExRunPost (ins regs : Int) (code : List Ins) (outs : List Int) (l : List Int) (w : World) (e : Ending) (w' : World) : Prop :=
  ((¬ ProgOk ins regs code outs ∧ e = .returned (.tuple #[.slice none 0 0, .int .i64 0, .int .i64 80])) ∨
   (ProgOk ins regs code outs ∧ (l.length : Int) ≠ ins ∧ e = .returned (.tuple #[.slice none 0 0, .int .i64 0, .int .i64 5])) ∨
   (ProgOk ins regs code outs ∧ (l.length : Int) = ins ∧ ∃ (m : Nat) (s : List Int), m < code.length ∧ afterN code (startN l regs.toNat) m = some s ∧ afterN code (startN l regs.toNat) (m + 1) = none ∧ e = .returned (.tuple #[.slice none 0 0, .int .i64 m, .int .i64 20])) ∨
   (ProgOk ins regs code outs ∧ (l.length : Int) = ins ∧ ∃ (s : List Int) (v : Value), afterN code (startN l regs.toNat) code.length = some s ∧ e = .returned (.tuple #[v, .int .i64 0, .int .i64 0]) ∧ OwnF IsInt 48 w w' v outs.length (fun k => (outsN outs s).getD k 0))) ∧ Below w.heap.size w w'
set_option maxRecDepth 100000 in
set_option maxHeartbeats 16000000 in
theorem exRun_c (ins regs : Int) (ca oa : Option Addr) (cc oc : Nat) (code : List Ins) (outs : List Int) (v : Value) (l : List Int) (K : Nat) (w : World) (hc : InsV w ca cc code) (ho : IntsV w oa oc outs) (hv : PRow 0 w v l) (hl : l.length ≤ 1099511627776) (hb : ∀ j, Bd K (l.getD j 0)) (hK : K ≤ 2147483648) :
    Calls Tryz.prog 13 #[.agg #[.int .i64 ins, .int .i64 regs, .slice ca code.length cc, .slice oa outs.length oc], v] w (ExRunPost ins regs code outs l w) := by
  have kr := fun W (h : Below w.heap.size w W) => right_c ins regs ca oa cc oc code outs l.length W (hc.keep h) (ho.keep h)
  have HC := Lib.hid (And.intro hc ho)
  have HV := Lib.hid hv
  have HBD := Lib.hid hb
  obtain ⟨va, vc, rfl, -⟩ := hv
  clear hc ho hb
  have hB := Below.refl w.heap.size w
  go_enter Tryz.func13, Tryz.ntmps13
  go_wp2_with fail
  refine (kr _ (by repeat (first | exact Below.refl _ _ | exact hB | refine Below.drew ?_ | refine below_drewN ?_ _ | refine bset ?_ (by simp <;> omega) _ | refine bal ?_ _))).mono ?_
  rintro e w1 ⟨hp, hb1⟩
  have p0 : w1.cell? ⟨w.heap.size, 0, none⟩ = some (.int .i64 ins) := bkeep hb1 (by first | assumption | exact cell_new (by with_reducible first | rfl | (simp; done) | (simp; omega)) rfl | (repeat (first | assumption | exact cell_new (by with_reducible first | rfl | (simp; done) | (simp; omega)) rfl | refine cell_alloc ?_ _ | refine cell_drew ?_ | refine cell_drewN ?_ _ | refine cell_far ?_ (by simp) _ | (refine cell_far ?_ (by simp <;> omega) _))) | simp [go_sem, *])
  have zp0 := cell_lt p0
  have p1 : w1.cell? ⟨w.heap.size, 1, none⟩ = some (.int .i64 regs) := bkeep hb1 (by first | assumption | exact cell_new (by with_reducible first | rfl | (simp; done) | (simp; omega)) rfl | (repeat (first | assumption | exact cell_new (by with_reducible first | rfl | (simp; done) | (simp; omega)) rfl | refine cell_alloc ?_ _ | refine cell_drew ?_ | refine cell_drewN ?_ _ | refine cell_far ?_ (by simp) _ | (refine cell_far ?_ (by simp <;> omega) _))) | simp [go_sem, *])
  have p2 : w1.cell? ⟨w.heap.size, 2, none⟩ = some (.slice ca code.length cc) := bkeep hb1 (by first | assumption | exact cell_new (by with_reducible first | rfl | (simp; done) | (simp; omega)) rfl | (repeat (first | assumption | exact cell_new (by with_reducible first | rfl | (simp; done) | (simp; omega)) rfl | refine cell_alloc ?_ _ | refine cell_drew ?_ | refine cell_drewN ?_ _ | refine cell_far ?_ (by simp) _ | (refine cell_far ?_ (by simp <;> omega) _))) | simp [go_sem, *])
  have p3 : w1.cell? ⟨w.heap.size, 3, none⟩ = some (.slice oa outs.length oc) := bkeep hb1 (by first | assumption | exact cell_new (by with_reducible first | rfl | (simp; done) | (simp; omega)) rfl | (repeat (first | assumption | exact cell_new (by with_reducible first | rfl | (simp; done) | (simp; omega)) rfl | refine cell_alloc ?_ _ | refine cell_drew ?_ | refine cell_drewN ?_ _ | refine cell_far ?_ (by simp) _ | (refine cell_far ?_ (by simp <;> omega) _))) | simp [go_sem, *])
  have hB : Below w.heap.size w w1 := bthen (by repeat (first | exact Below.refl _ _ | exact hB | refine Below.drew ?_ | refine below_drewN ?_ _ | refine bset ?_ (by simp <;> omega) _ | refine bal ?_ _)) hb1
  have hz : w.heap.size ≤ w1.heap.size := hB.size
  clear kr
  rcases hp with ⟨hno, rfl⟩ | ⟨hok, hne, rfl⟩ | ⟨hok, hle, rfl⟩
  · have HNO := Lib.hid hno
    clear hno
    go_wp2
    go_ret3
    exact ⟨.inl ⟨HNO.out, rfl⟩, hB⟩
  · have HNO := Lib.hid (And.intro hok hne)
    clear hok hne
    go_wp2
    go_ret3
    exact ⟨.inr (.inl ⟨HNO.out.1, HNO.out.2, rfl⟩), hB⟩
  · have HOK := Lib.hid hok
    have HLE := Lib.hid hle
    obtain ⟨R, hR⟩ : ∃ R : Nat, regs = R := ⟨regs.toNat, by have := hok.i1; have := hok.i2; omega⟩
    have hlR : l.length ≤ R := by have := hok.i2; omega
    have hR128 : R ≤ 128 := by have := hok.r1; omega
    clear hok hle
    subst hR
    have hmk := mkInts R (by omega)
    have hw1 : w.heap.size < w1.heap.size := zp0
    go_wp2_with (refine copy_ints (o := ⟨some 25, _, _, _, _, _⟩) (g := w1.heap.size) (R := R) (ad := va) (l := l) (c := vc) (base := 0) rfl rfl rfl rfl (HV.out.keep lims_int (bal hB _)) hlR (MapKept.heap_alloc w1 _).1 ?_)
    intro nn w2 hI2 hF2 hT2 hO2
    have hne : ¬ w.heap.size = w1.heap.size := by omega
    have hO1 : Out (fun k => k = w1.heap.size) w1 w2 := ((Out.refl _ w1).alloc _).trans hO2
    have HP := Lib.hid (show ∀ W, Out (fun k => k = w1.heap.size) w1 W → W.cell? ⟨w.heap.size, 0, none⟩ = some (.int .i64 ins) ∧ W.cell? ⟨w.heap.size, 1, none⟩ = some (.int .i64 (R : Int)) ∧ W.cell? ⟨w.heap.size, 2, none⟩ = some (.slice ca code.length cc) ∧ W.cell? ⟨w.heap.size, 3, none⟩ = some (.slice oa outs.length oc) from fun W h => ⟨okeep h p0 hne, okeep h p1 hne, okeep h p2 hne, okeep h p3 hne⟩)
    have HI2 := Lib.hid (And.intro hI2 (And.intro hF2 hT2))
    have HB1 := Lib.hid hB
    clear hI2 hF2 hT2 hO2 hmk p0 p1 p2 p3
    obtain ⟨p0, p1, p2, p3⟩ := HP.out w2 hO1
    have hzz : w1.heap.size < w2.heap.size := HI2.out.2.1.1
    have HSL := Lib.hid (startN_len hlR)
    have rx := fun W (k : Below w2.heap.size w2 W) => runN_c ins (R : Int) ca oa cc outs.length oc code (startN l R) K w1.heap.size 59 #[] W (HC.out.1.keep ((HB1.out.trans (hO1.to_below (fun q hq _ e => by omega) HB1.out.size)).trans (k.mono (by omega)))) (fun n hn => by rw [HSL.out]; exact ins_of HOK.out hn) HOK.out.c1 (cs_of HOK.out) (by rw [HSL.out]; exact hR128) (by rw [HSL.out]; exact HI2.out.1.keep lims_int k) (HI2.out.2.1.keep k) (typ_keep HI2.out.2.2 k) (fun j => by
      by_cases e : j < l.length
      · rw [startN_lt e]; exact HBD.out j
      · rw [startN_ge (by omega)]; exact bd_zero) hK told_c (ens Tryz.func59 (by kernel_rfl) rfl) (fun b off e hl e2 => by
      rcases HC.out.1 with h0 | ⟨b', off', h1, _, h3⟩
      · rw [h0] at hl; simp at hl
      · rw [e] at h1; cases h1
        have := cell_lt (h3 0 hl).c0
        omega)
    rw [HSL.out] at rx
    have hBc := Below.refl w2.heap.size w2
    go_wp2
    go_region_held3 (fun w' => w'.cell? ⟨w.heap.size, 0, none⟩ = some (.int .i64 ins) ∧ w'.cell? ⟨w.heap.size, 1, none⟩ = some (.int .i64 (R : Int)) ∧ w'.cell? ⟨w.heap.size, 2, none⟩ = some (.slice ca code.length cc) ∧ w'.cell? ⟨w.heap.size, 3, none⟩ = some (.slice oa outs.length oc))
      (first | (refine HP.out _ ?_; refine hO1.below ?_; (repeat (first | exact Below.refl _ _ | exact hBc | refine Below.drew ?_ | refine below_drewN ?_ _ | refine bset ?_ (by simp <;> omega) _ | refine bal ?_ _)); done) | (refine HP.out _ (hO1.trans ?_); (repeat (first | exact hO4 | refine Out.drew ?_ | refine Out.drewN ?_ _)); done) | fail)
      (first
        | (go_at_call 58; refine (numbers_c _).mono ?_; rintro e w3 ⟨rfl, hb3⟩; (have hBd : Below w2.heap.size w2 w3 := bthen (by repeat (first | exact Below.refl _ _ | exact hBc | refine Below.drew ?_ | refine below_drewN ?_ _ | refine bset ?_ (by simp <;> omega) _ | refine bal ?_ _)) hb3; clear hBc; have hBc := hBd; clear hBd))
        | (go_at_call 57; refine (rx _ ?_).mono ?_; (repeat (first | exact Below.refl _ _ | exact hBc | refine Below.drew ?_ | refine below_drewN ?_ _ | refine bset ?_ (by simp <;> omega) _ | refine bal ?_ _)); rintro e w4 hr4; obtain ⟨⟨q, rfl, hres⟩, hO4'⟩ := runNRes hr4; have hO4 : Out (fun k => k = w1.heap.size) w2 w4 := (Out.of_below _ (by repeat (first | exact Below.refl _ _ | exact hBc | refine Below.drew ?_ | refine below_drewN ?_ _ | refine bset ?_ (by simp <;> omega) _ | refine bal ?_ _))).trans hO4'; have HRES := Lib.hid hres; clear hres hr4 hO4')
        | fail)
    all_goals
      have hO14 := hO1.trans hO4
      have hB4 : Below w.heap.size w w4 := HB1.out.trans (hO14.to_below (fun q hq _ e => by omega) HB1.out.size)
      clear rx hBc p0 p1 p2 p3
      rcases HRES.out with ⟨m, s, h1, h2, h3, rfl⟩ | ⟨s, h1, rfl, h2, h3⟩
      · have HH := Lib.hid (And.intro h2 h3)
        clear h2 h3
        go_wp2
        go_ret3
        exact ⟨.inr (.inr (.inl ⟨HOK.out, HLE.out, m, s, h1, by rw [Int.toNat_natCast]; exact HH.out.1, by rw [Int.toNat_natCast]; exact HH.out.2, rfl⟩)), by repeat (first | exact Below.refl _ _ | exact hB4 | refine Below.drew ?_ | refine below_drewN ?_ _ | refine bset ?_ (by simp <;> omega) _ | refine bal ?_ _)⟩
      · have HH := Lib.hid (And.intro h1 h2)
        clear h1 h2 h3
        obtain ⟨p0, p1, p2, p3⟩ := HP.out w4 hO14
        have hsl := (afterN_len HH.out.1).trans HSL.out
        have HL := Lib.hid hsl
        clear hsl
        have hBw := Below.refl w4.heap.size w4
        go_wp2
        refine wp_name fun w5 hW5 => ?_
        have hb45 : Below w4.heap.size w4 w5 := by rw [hW5]; repeat (first | exact Below.refl _ _ | exact hBw | refine Below.drew ?_ | refine below_drewN ?_ _ | refine bset ?_ (by simp <;> omega) _ | refine bal ?_ _)
        clear hW5 p0 p1 p2 p3
        obtain ⟨p0, p1, p2, p3⟩ := HP.out w5 (hO14.below hb45)
        have hB5 := bthen hB4 hb45
        go_loopw [10, 36] (fun v x wr => ∃ k : Nat, k ≤ outs.length ∧ x = .int .i64 k ∧ Hid (OwnF IsInt 48 w5 wr v k (fun i => (outsN outs s).getD i 0))) (fun _ x _ => outs.length - (intOf x).toNat)
        case atStart => exact ⟨0, Nat.zero_le _, rfl, Lib.hid (OwnF.nil _ _ _ (Below.refl _ _))⟩
        case round =>
          obtain ⟨k, hk, rfl, hF⟩ := hrel
          have hbr := hF.out.bel
          have hBr := bthen hB5 hbr
          obtain ⟨fa, fc, hfv⟩ : ∃ a c, _ = Value.slice a k c := by obtain ⟨a, c, h, _⟩ := hF.out.view; exact ⟨a, c, h⟩
          subst hfv
          have hol := HOK.out.o2
          by_cases hlt : k < outs.length
          · have hltI : (k : Int) < (outs.length : Int) := by omega
            obtain ⟨q1, q2⟩ := HOK.out.os k hlt
            rcases HC.out.2 with h0 | ⟨ob, off, rfl, hcap, hcell⟩
            · rw [h0] at hlt; simp at hlt
            have hc := bkeep hBr (hcell k hlt)
            have zob := cell_lt hc
            obtain ⟨r, hr⟩ : ∃ r : Nat, outs.getD k 0 = r := ⟨(outs.getD k 0).toNat, by omega⟩
            rw [hr] at hc q1 q2
            have hrl : r < R := by omega
            have HE := Lib.hid (show (outsN outs s).getD k 0 = s.getD r 0 by
              unfold outsN
              have e : outs[k]? = some (r : Int) := by rw [← hr]; simp [hlt]
              rw [List.getD_eq_getElem?_getD, List.getElem?_map, e]; simp)
            obtain ⟨nx, ax, lx, cx, o0, o1, hi⟩ := (HH.out.2.keep lims_int (bthen hb45 hbr)).at0 (by rw [HSL.out]; exact hrl)
            have zo := cell_lt o0
            have HIX := Lib.hid hi
            have HSN : Hid (∀ j, j < k + 1 → (fun i => if i = k then s.getD r 0 else (outsN outs s).getD i 0) j = (outsN outs s).getD j 0) := Lib.hid (fun j hj => by
              dsimp only; split
              · subst_vars; rw [HE.out]
              · rfl)
            obtain ⟨z, hz⟩ : ∃ z, s.getD r 0 = z := ⟨_, rfl⟩
            rw [hz] at HSN
            have HIX := Lib.hid (show IsInt wr (.agg #[.bool nx, .slice ax lx cx]) z by have := HIX.out; (try dsimp only at this); rwa [hz] at this)
            clear hi hz hcell hr
            go_wp2_with (at_builtin; refine app_num elInt (by decide) lims_int (by rfl) (by rfl) hF.out HIX.out (by rfl) (by rfl) (by omega) ?_)
            intro v' w8 hF8 _ _
            have HF8 := Lib.hid (hF8.congr' HSN.out)
            clear hF8
            go_wp2
            exact ⟨⟨k + 1, by omega, by go_num, HF8⟩, by simp [intOf]; omega⟩
          · obtain rfl : k = outs.length := by omega
            go_wp2
            go_ret3
            exact ⟨.inr (.inr (.inr ⟨HOK.out, HLE.out, s, _, by rw [Int.toNat_natCast]; exact HH.out.1, rfl, OwnF.rebase' hB5 hF.out⟩)), hBr⟩
end Go.Proofs.YtannhpadoooedaaGreatDoor
/- VmColumns: a run on blocks is a run on the numbers at each place. -/
namespace Go.Proofs.YtannhpadoooedaaGreatDoor
open Num
open Go.ChangeShapes Go.WideShapes Go.ChangeAt Go.RowKit
set_option linter.unusedVariables false
set_option linter.unusedSimpArgs false
attribute [local go_sem ↓] Go.wp_at_zero Go.wp_at_succ
set_option maxRecDepth 100000 in
set_option maxHeartbeats 32000000 in
theorem vmColumns_h (ins regs : Int) (ca oa : Option Addr) (cc oc : Nat) (code : List Ins) (outs : List Int) (v : Value) (g : Grid) (w : World) (hp : ProgI w ca oa cc oc code outs) (hg : GridS w v g) (hT : Tz32 w) :
    Calls Tryz.prog 7 #[.agg #[.int .i64 ins, .int .i64 regs, .slice ca code.length cc, .slice oa outs.length oc], v] w fun e w' => e = .returned (.bool true) ∧ Below w.heap.size w w' := by
  have wc := fun W (h : Below w.heap.size w W) => works_c W (hT.keep h)
  have lc := fun W (h : Below w.heap.size w W) => long_c ins regs ca oa cc oc code.length outs.length v g W (hg.i.keep h) hg.s hg.l hp.cl
  have HP := Lib.hid hp
  have HG := Lib.hid hg
  have HT := Lib.hid hT
  have HBD := Lib.hid hg.i.bd
  obtain ⟨ga, gc, rfl, -⟩ := hg.i
  clear hp hg hT
  have hB := Below.refl w.heap.size w
  go_enter Tryz.func7, Tryz.ntmps7
  go_wp2_with fail
  refine (wc _ (by repeat (first | exact Below.refl _ _ | exact hB | refine Below.drew ?_ | refine below_drewN ?_ _ | refine bset ?_ (by simp <;> omega) _ | refine bal ?_ _))).mono ?_
  rintro e w1 ⟨rfl, hb1⟩
  have p0 : w1.cell? ⟨w.heap.size, 0, none⟩ = some (.int .i64 ins) := bkeep hb1 (by first | assumption | exact cell_new (by with_reducible first | rfl | (simp; done) | (simp; omega)) rfl | (repeat (first | assumption | exact cell_new (by with_reducible first | rfl | (simp; done) | (simp; omega)) rfl | refine cell_alloc ?_ _ | refine cell_drew ?_ | refine cell_drewN ?_ _ | refine cell_far ?_ (by simp) _ | (refine cell_far ?_ (by simp <;> omega) _))) | simp [go_sem, *])
  have zp0 := cell_lt p0
  have p1 : w1.cell? ⟨w.heap.size, 1, none⟩ = some (.int .i64 regs) := bkeep hb1 (by first | assumption | exact cell_new (by with_reducible first | rfl | (simp; done) | (simp; omega)) rfl | (repeat (first | assumption | exact cell_new (by with_reducible first | rfl | (simp; done) | (simp; omega)) rfl | refine cell_alloc ?_ _ | refine cell_drew ?_ | refine cell_drewN ?_ _ | refine cell_far ?_ (by simp) _ | (refine cell_far ?_ (by simp <;> omega) _))) | simp [go_sem, *])
  have p2 : w1.cell? ⟨w.heap.size, 2, none⟩ = some (.slice ca code.length cc) := bkeep hb1 (by first | assumption | exact cell_new (by with_reducible first | rfl | (simp; done) | (simp; omega)) rfl | (repeat (first | assumption | exact cell_new (by with_reducible first | rfl | (simp; done) | (simp; omega)) rfl | refine cell_alloc ?_ _ | refine cell_drew ?_ | refine cell_drewN ?_ _ | refine cell_far ?_ (by simp) _ | (refine cell_far ?_ (by simp <;> omega) _))) | simp [go_sem, *])
  have p3 : w1.cell? ⟨w.heap.size, 3, none⟩ = some (.slice oa outs.length oc) := bkeep hb1 (by first | assumption | exact cell_new (by with_reducible first | rfl | (simp; done) | (simp; omega)) rfl | (repeat (first | assumption | exact cell_new (by with_reducible first | rfl | (simp; done) | (simp; omega)) rfl | refine cell_alloc ?_ _ | refine cell_drew ?_ | refine cell_drewN ?_ _ | refine cell_far ?_ (by simp) _ | (refine cell_far ?_ (by simp <;> omega) _))) | simp [go_sem, *])
  have hB : Below w.heap.size w w1 := bthen (by repeat (first | exact Below.refl _ _ | exact hB | refine Below.drew ?_ | refine below_drewN ?_ _ | refine bset ?_ (by simp <;> omega) _ | refine bal ?_ _)) hb1
  have hz : w.heap.size ≤ w1.heap.size := hB.size
  clear wc
  go_wp2_with fail
  refine (lc _ (by repeat (first | exact Below.refl _ _ | exact hB | refine Below.drew ?_ | refine below_drewN ?_ _ | refine bset ?_ (by simp <;> omega) _ | refine bal ?_ _))).mono ?_
  rintro e w2 ⟨rfl, hb2⟩
  have p0 : w2.cell? ⟨w.heap.size, 0, none⟩ = some (.int .i64 ins) := bkeep hb2 (by first | assumption | exact cell_new (by with_reducible first | rfl | (simp; done) | (simp; omega)) rfl | (repeat (first | assumption | exact cell_new (by with_reducible first | rfl | (simp; done) | (simp; omega)) rfl | refine cell_alloc ?_ _ | refine cell_drew ?_ | refine cell_drewN ?_ _ | refine cell_far ?_ (by simp) _ | (refine cell_far ?_ (by simp <;> omega) _))) | simp [go_sem, *])
  have zp0 := cell_lt p0
  have p1 : w2.cell? ⟨w.heap.size, 1, none⟩ = some (.int .i64 regs) := bkeep hb2 (by first | assumption | exact cell_new (by with_reducible first | rfl | (simp; done) | (simp; omega)) rfl | (repeat (first | assumption | exact cell_new (by with_reducible first | rfl | (simp; done) | (simp; omega)) rfl | refine cell_alloc ?_ _ | refine cell_drew ?_ | refine cell_drewN ?_ _ | refine cell_far ?_ (by simp) _ | (refine cell_far ?_ (by simp <;> omega) _))) | simp [go_sem, *])
  have p2 : w2.cell? ⟨w.heap.size, 2, none⟩ = some (.slice ca code.length cc) := bkeep hb2 (by first | assumption | exact cell_new (by with_reducible first | rfl | (simp; done) | (simp; omega)) rfl | (repeat (first | assumption | exact cell_new (by with_reducible first | rfl | (simp; done) | (simp; omega)) rfl | refine cell_alloc ?_ _ | refine cell_drew ?_ | refine cell_drewN ?_ _ | refine cell_far ?_ (by simp) _ | (refine cell_far ?_ (by simp <;> omega) _))) | simp [go_sem, *])
  have p3 : w2.cell? ⟨w.heap.size, 3, none⟩ = some (.slice oa outs.length oc) := bkeep hb2 (by first | assumption | exact cell_new (by with_reducible first | rfl | (simp; done) | (simp; omega)) rfl | (repeat (first | assumption | exact cell_new (by with_reducible first | rfl | (simp; done) | (simp; omega)) rfl | refine cell_alloc ?_ _ | refine cell_drew ?_ | refine cell_drewN ?_ _ | refine cell_far ?_ (by simp) _ | (refine cell_far ?_ (by simp <;> omega) _))) | simp [go_sem, *])
  have hB : Below w.heap.size w w2 := bthen (by repeat (first | exact Below.refl _ _ | exact hB | refine Below.drew ?_ | refine below_drewN ?_ _ | refine bset ?_ (by simp <;> omega) _ | refine bal ?_ _)) hb2
  have hz : w.heap.size ≤ w2.heap.size := hB.size
  clear lc
  cases hlg : longB code.length regs (sumG g) with
  | true =>
    go_wp2
    go_ret
    exact ⟨rfl, by repeat (first | exact Below.refl _ _ | exact hB | refine Below.drew ?_ | refine below_drewN ?_ _ | refine bset ?_ (by simp <;> omega) _ | refine bal ?_ _)⟩
  | false =>
    have hll : sumG g ≤ 300 := by
      have := of_decide_eq_false hlg; omega
    have HL := Lib.hid hll
    clear hlg hll
    have hgl : g.length ≤ 1048576 := HG.out.l
    have hgl24 : (g.length + 1) * 24 ≤ 140737488355328 := by omega
    have lx := fun W (h : Below w.heap.size w W) => lists_c (.slice ga g.length gc) g W (HG.out.i.keep h) hgl24 HL.out
    have hgl3 : ∀ j (hj : j < g.length), g[j].length ≤ 1099511627776 := fun j hj => by have := sumG_le hj; rw [show g.getD j [] = g[j] by simp [hj]] at this; have := HL.out; omega
    have HGL := Lib.hid hgl3
    clear hgl3
    go_wp2_with fail
    refine (lx _ (by repeat (first | exact Below.refl _ _ | exact hB | refine Below.drew ?_ | refine below_drewN ?_ _ | refine bset ?_ (by simp <;> omega) _ | refine bal ?_ _))).mono ?_
    rintro e w3 ⟨v3, rfl, hO3⟩
    have hb3 := hO3.bel
    have p0 : w3.cell? ⟨w.heap.size, 0, none⟩ = some (.int .i64 ins) := bkeep hb3 (by first | assumption | exact cell_new (by with_reducible first | rfl | (simp; done) | (simp; omega)) rfl | (repeat (first | assumption | exact cell_new (by with_reducible first | rfl | (simp; done) | (simp; omega)) rfl | refine cell_alloc ?_ _ | refine cell_drew ?_ | refine cell_drewN ?_ _ | refine cell_far ?_ (by simp) _ | (refine cell_far ?_ (by simp <;> omega) _))) | simp [go_sem, *])
    have zp0 := cell_lt p0
    have p1 : w3.cell? ⟨w.heap.size, 1, none⟩ = some (.int .i64 regs) := bkeep hb3 (by first | assumption | exact cell_new (by with_reducible first | rfl | (simp; done) | (simp; omega)) rfl | (repeat (first | assumption | exact cell_new (by with_reducible first | rfl | (simp; done) | (simp; omega)) rfl | refine cell_alloc ?_ _ | refine cell_drew ?_ | refine cell_drewN ?_ _ | refine cell_far ?_ (by simp) _ | (refine cell_far ?_ (by simp <;> omega) _))) | simp [go_sem, *])
    have p2 : w3.cell? ⟨w.heap.size, 2, none⟩ = some (.slice ca code.length cc) := bkeep hb3 (by first | assumption | exact cell_new (by with_reducible first | rfl | (simp; done) | (simp; omega)) rfl | (repeat (first | assumption | exact cell_new (by with_reducible first | rfl | (simp; done) | (simp; omega)) rfl | refine cell_alloc ?_ _ | refine cell_drew ?_ | refine cell_drewN ?_ _ | refine cell_far ?_ (by simp) _ | (refine cell_far ?_ (by simp <;> omega) _))) | simp [go_sem, *])
    have p3 : w3.cell? ⟨w.heap.size, 3, none⟩ = some (.slice oa outs.length oc) := bkeep hb3 (by first | assumption | exact cell_new (by with_reducible first | rfl | (simp; done) | (simp; omega)) rfl | (repeat (first | assumption | exact cell_new (by with_reducible first | rfl | (simp; done) | (simp; omega)) rfl | refine cell_alloc ?_ _ | refine cell_drew ?_ | refine cell_drewN ?_ _ | refine cell_far ?_ (by simp) _ | (refine cell_far ?_ (by simp <;> omega) _))) | simp [go_sem, *])
    have hB : Below w.heap.size w w3 := bthen (by repeat (first | exact Below.refl _ _ | exact hB | refine Below.drew ?_ | refine below_drewN ?_ _ | refine bset ?_ (by simp <;> omega) _ | refine bal ?_ _)) hb3
    have hz : w.heap.size ≤ w3.heap.size := hB.size
    have HIN := Lib.hid hO3.gridV
    obtain ⟨a3, c3, rfl⟩ := hO3.ex
    clear hO3
    have hb33 : Below w3.heap.size w3 w3 := Below.refl _ _
    go_wp2_with fail
    refine (run_c ins regs ca oa cc oc code outs (.slice a3 g.length c3) g 64 _ (HP.out.c.keep hB) (HP.out.o.keep hB) HP.out.cn HP.out.on (HIN.out.keep (prs_row lims_int _ _) (by repeat (first | exact Below.refl _ _ | exact hb33 | refine Below.drew ?_ | refine below_drewN ?_ _ | refine bset ?_ (by simp <;> omega) _ | refine bal ?_ _))) (by have := HP.out.cl; omega) (by have := HP.out.ol; omega) (by omega) HBD.out (by omega) (HT.out.keep hB)).mono ?_
    rintro e w5 hr5
    obtain ⟨⟨ra, rl, rcp, rn, rs, rfl, hres⟩, hb5⟩ := runRes hr5
    have p0 : w5.cell? ⟨w.heap.size, 0, none⟩ = some (.int .i64 ins) := bkeep hb5 (by first | assumption | exact cell_new (by with_reducible first | rfl | (simp; done) | (simp; omega)) rfl | (repeat (first | assumption | exact cell_new (by with_reducible first | rfl | (simp; done) | (simp; omega)) rfl | refine cell_alloc ?_ _ | refine cell_drew ?_ | refine cell_drewN ?_ _ | refine cell_far ?_ (by simp) _ | (refine cell_far ?_ (by simp <;> omega) _))) | simp [go_sem, *])
    have zp0 := cell_lt p0
    have p1 : w5.cell? ⟨w.heap.size, 1, none⟩ = some (.int .i64 regs) := bkeep hb5 (by first | assumption | exact cell_new (by with_reducible first | rfl | (simp; done) | (simp; omega)) rfl | (repeat (first | assumption | exact cell_new (by with_reducible first | rfl | (simp; done) | (simp; omega)) rfl | refine cell_alloc ?_ _ | refine cell_drew ?_ | refine cell_drewN ?_ _ | refine cell_far ?_ (by simp) _ | (refine cell_far ?_ (by simp <;> omega) _))) | simp [go_sem, *])
    have p2 : w5.cell? ⟨w.heap.size, 2, none⟩ = some (.slice ca code.length cc) := bkeep hb5 (by first | assumption | exact cell_new (by with_reducible first | rfl | (simp; done) | (simp; omega)) rfl | (repeat (first | assumption | exact cell_new (by with_reducible first | rfl | (simp; done) | (simp; omega)) rfl | refine cell_alloc ?_ _ | refine cell_drew ?_ | refine cell_drewN ?_ _ | refine cell_far ?_ (by simp) _ | (refine cell_far ?_ (by simp <;> omega) _))) | simp [go_sem, *])
    have p3 : w5.cell? ⟨w.heap.size, 3, none⟩ = some (.slice oa outs.length oc) := bkeep hb5 (by first | assumption | exact cell_new (by with_reducible first | rfl | (simp; done) | (simp; omega)) rfl | (repeat (first | assumption | exact cell_new (by with_reducible first | rfl | (simp; done) | (simp; omega)) rfl | refine cell_alloc ?_ _ | refine cell_drew ?_ | refine cell_drewN ?_ _ | refine cell_far ?_ (by simp) _ | (refine cell_far ?_ (by simp <;> omega) _))) | simp [go_sem, *])
    have hB : Below w.heap.size w w5 := bthen (by repeat (first | exact Below.refl _ _ | exact hB | refine Below.drew ?_ | refine below_drewN ?_ _ | refine bset ?_ (by simp <;> omega) _ | refine bal ?_ _)) hb5
    have hz : w.heap.size ≤ w5.heap.size := hB.size
    have hq : ∀ w, (binOp .eql 54 (.slice none 0 0) (.slice none 0 0)).run Tryz.prog w = .ok (.bool true) w := fun w => Lib.run_eql_slice_nil w _ _ none 0 0 0 0 Tryz.underlying54
    have HIN5 := Lib.hid (HIN.out.keep (prs_row lims_int _ _) hb5)
    clear hr5 HIN
    rcases hres with ⟨h1, h2, rfl, rfl⟩ | ⟨h1, h2, h3, rfl, rfl⟩ | ⟨h1, h2, h3, h4, h5, h6, rfl⟩ | ⟨h1, h2, rfl, rfl, h, h5, h6⟩
    · obtain ⟨rfl, rfl, rfl⟩ := Value.slice.inj h2
      clear h1 h2
      go_wp2
      go_ret
      exact ⟨rfl, hB⟩
    · obtain ⟨rfl, rfl, rfl⟩ := Value.slice.inj h3
      clear h1 h2 h3
      go_wp2
      go_ret
      exact ⟨rfl, hB⟩
    ·
      have HOK := Lib.hid h1
      have HFIT := Lib.hid h2
      have h0 : 0 < g.length := by have := HFIT.out.len; have := HOK.out.i1; omega
      have hg0 : g.length ≤ regs.toNat := by have := HFIT.out.len; have := HOK.out.i2; omega
      obtain ⟨R, hR⟩ : ∃ R : Nat, regs = R := ⟨regs.toNat, by have := HOK.out.i1; have := HOK.out.i2; omega⟩
      subst hR
      rw [Int.toNat_natCast] at h4 h5 hg0
      have hm := HFIT.out.m
      obtain ⟨m, hmE⟩ : ∃ m, (g.getD 0 []).length = m := ⟨_, rfl⟩
      have HRE := Lib.hid (show Rect m g by rw [← hmE]; exact HFIT.out.rect)
      rw [hmE] at hm h4 h5
      have HGR := Lib.hid hg0
      have HA := Lib.hid (show ∀ n, n < code.length → (code.getD n default).a.toNat < R from fun n hn => by have := (ins_of HOK.out hn).a1; have := (ins_of HOK.out hn).a0; rw [Int.toNat_natCast] at *; omega)
      obtain ⟨va3, vc3, hve, -, hview⟩ := HIN5.out.view
      obtain ⟨rfl, -, rfl⟩ := Value.slice.inj hve
      have HVW := Lib.hid hview
      have HCOL := Lib.hid (show ∀ k j, Bd 64 ((colG g k).getD j 0) from fun k j => by rw [colG_get]; exact HBD.out j k)
      obtain ⟨gb, go, u0, rfl, hu0, hr0⟩ := HVW.out 0 h0
      obtain ⟨a0, x0, rfl, -⟩ := hr0
      rw [Nat.add_zero, show (g[0]'h0).length = m by rw [← hmE]; simp [h0]] at hu0
      have h0I : (0 : Int) < (g.length : Int) := by omega
      have hBw := Below.refl w5.heap.size w5
      obtain ⟨rfl, rfl, rfl⟩ := Value.slice.inj h6
      have HF := Lib.hid (And.intro h3 (And.intro h4 h5))
      clear h1 h2 h3 h4 h5 h6 hve hview hg0 hmE
      go_wp2
      go_loopw [9, 48] (fun L x wr => ∃ k : Nat, k ≤ m ∧ x = .int .i64 k ∧ ∃ Lv : Int, L = .int .i64 Lv ∧ Hid (LeastUp code g R k Lv) ∧ Below w5.heap.size w5 wr) (fun _ x _ => m - (intOf x).toNat)
      case atStart => exact ⟨0, Nat.zero_le _, rfl, -1, rfl, Lib.hid (LeastUp.zero _ _ _), hBw⟩
      case round =>
        obtain ⟨k, hk, rfl, Lv, rfl, hL, hbr⟩ := hrel
        by_cases hlt : k < m
        ·
          have hltI : (k : Int) < (m : Int) := by omega
          obtain ⟨wq, hwq⟩ : ∃ wq, wr = wq := ⟨_, rfl⟩
          rw [hwq] at hbr ⊢
          clear hwq
          go_wp2
          go_loopw [11, 53] (fun v x wr => ∃ j : Nat, j ≤ g.length ∧ x = .int .i64 j ∧ Hid (OwnF IsInt 48 wq wr v j (fun i => (colG g k).getD i 0))) (fun _ x _ => g.length - (intOf x).toNat)
          case atStart => exact ⟨0, Nat.zero_le _, rfl, Lib.hid (OwnF.nil _ _ _ (Below.refl _ _))⟩
          case round =>
            obtain ⟨j, hj, rfl, hF⟩ := hrel
            have hbq := hF.out.bel
            obtain ⟨fa, fc, hfv⟩ : ∃ a c, _ = Value.slice a j c := by obtain ⟨a, c, h, _⟩ := hF.out.view; exact ⟨a, c, h⟩
            subst hfv
            have hb5r := bthen hbr hbq
            by_cases hlt2 : j < g.length
            · have hltJ : (j : Int) < (g.length : Int) := by omega
              obtain ⟨gb2, go2, u, hge, hu, hrow⟩ := HVW.out j hlt2
              cases hge
              have hlen : g[j].length = m := by have := HRE.out j hlt2; rwa [show g.getD j [] = g[j] by simp [hlt2]] at this
              obtain ⟨ar, xr, rfl, -, vr⟩ := hrow.view
              obtain ⟨rb, ro, nx, ax, lx, cx, rfl, c0, c1, hi⟩ := vr k (by omega)
              rw [hlen] at hu
              replace hu := bkeep hb5r hu
              replace c0 := bkeep hb5r c0
              replace c1 := bkeep hb5r c1
              have zu := cell_lt hu
              have zc := cell_lt c0
              have HIX := Lib.hid (show IsInt wr (.agg #[.bool nx, .slice ax lx cx]) ((colG g k).getD j 0) by rw [colG_get, show g.getD j [] = g[j] by simp [hlt2]]; exact hi.keep hb5r)
              have HSN := Lib.hid (snoc_fun (colG g k) j (by rw [colG_len]; exact hlt2))
              obtain ⟨z, hz⟩ : ∃ z, (colG g k).getD j 0 = z := ⟨_, rfl⟩
              rw [hz] at HSN HIX
              clear hz hi hrow vr hlen
              go_wp2_with (at_builtin; refine app_num elInt (by decide) lims_int (by rfl) (by rfl) hF.out HIX.out (by rfl) (by rfl) (by omega) ?_)
              intro v' w8 hF8 _ _
              have HF8 := Lib.hid (hF8.congr' HSN.out)
              clear hF8
              go_wp2
              exact ⟨⟨j + 1, by omega, by go_num, HF8⟩, by simp [intOf]; omega⟩
            · obtain rfl : j = g.length := by omega
              have HCV := Lib.hid (show PRow 0 wr (.slice fa g.length fc) (colG g k) from (show OwnF IsInt 48 wq wr (.slice fa g.length fc) (colG g k).length (fun i => (colG g k).getD i 0) by rw [colG_len]; exact hF.out).row.rebase (Nat.zero_le _))
              have hBr := bthen hB hb5r
              have ex := fun W (h : Below wr.heap.size wr W) => exRun_c ins (R : Int) ca oa cc oc code outs (.slice fa g.length fc) (colG g k) 64 W (HP.out.c.keep (bthen hBr h)) (HP.out.o.keep (bthen hBr h)) (HCV.out.keep lims_int h) (by rw [colG_len]; omega) (HCOL.out k) (by omega)
              have hBz := Below.refl wr.heap.size wr
              replace p0 := bkeep hb5r p0
              replace p1 := bkeep hb5r p1
              replace p2 := bkeep hb5r p2
              replace p3 := bkeep hb5r p3
              go_wp2_with fail
              refine (ex _ (by repeat (first | exact Below.refl _ _ | exact hBz | refine Below.drew ?_ | refine below_drewN ?_ _ | refine bset ?_ (by simp <;> omega) _ | refine bal ?_ _))).mono ?_
              rintro e w9 ⟨hp, hb9⟩
              have hb59 : Below w5.heap.size w5 w9 := bthen hb5r (by have hb9' : Below wr.heap.size wr w9 := bthen (by repeat (first | exact Below.refl _ _ | exact hBz | refine Below.drew ?_ | refine below_drewN ?_ _ | refine bset ?_ (by simp <;> omega) _ | refine bal ?_ _)) hb9; exact hb9')
              clear ex
              rcases hp with ⟨g1, _⟩ | ⟨_, g2, _⟩ | ⟨_, _, at', s, g3, g4, g5, rfl⟩ | ⟨_, _, s, v, g3, rfl, g4⟩
              · exact absurd HOK.out g1
              · exact absurd (by rw [colG_len]; exact HFIT.out.len) g2
              · rw [Int.toNat_natCast] at g4 g5
                have HFA := Lib.hid (show FailsAt code g R k at' from ⟨g3, ⟨s, g4⟩, g5⟩)
                clear g4 g5
                by_cases e1 : Lv < 0
                · have HN := Lib.hid (hL.out.new HFA.out (.inl e1))
                  have hq1 : decide (Lv < 0) = true := by simp; omega
                  go_wp2
                  exact ⟨⟨k + 1, by omega, by go_num, _, rfl, HN, hb59⟩, by simp [intOf]; omega⟩
                · have hq1 : decide (Lv < 0) = false := by simp; omega
                  have e3 : 0 ≤ Lv := by omega
                  by_cases e2 : (at' : Int) < Lv
                  · have HN := Lib.hid (hL.out.new HFA.out (.inr e2))
                    have hq2 : decide ((at' : Int) < Lv) = true := by simp; omega
                    go_wp2
                    exact ⟨⟨k + 1, by omega, by go_num, _, rfl, HN, hb59⟩, by simp [intOf]; omega⟩
                  · have HN := Lib.hid (hL.out.old HFA.out e3 (by omega))
                    have hq2 : decide ((at' : Int) < Lv) = false := by simp; omega
                    go_wp2
                    exact ⟨⟨k + 1, by omega, by go_num, _, rfl, HN, hb59⟩, by simp [intOf]; omega⟩
              · rw [Int.toNat_natCast] at g3
                have HG3 := Lib.hid g3
                have HN := Lib.hid (hL.out.ok (fun m => FailsAt.no HG3.out))
                have HV9 := Lib.hid g4
                obtain ⟨ea, ec, hev⟩ : ∃ a c, v = .slice a outs.length c := by obtain ⟨a, c, h, _⟩ := g4.view; exact ⟨a, c, h⟩
                subst hev
                clear g3 g4
                go_wp2
                go_loopw [86] (fun x wi => x = .int .i64 0 ∧ wi = w9) (fun x _ => 1)
                case atStart => exact ⟨rfl, rfl⟩
                case round =>
                  obtain ⟨rfl, rfl⟩ := hrel
                  go_wp2
                  exact ⟨⟨k + 1, by omega, by go_num, _, rfl, HN, hb59⟩, by simp [intOf]; omega⟩
        · obtain rfl : k = m := by omega
          obtain ⟨h', hh'⟩ := HF.out.2.1
          have hLn : Lv = rn := LeastUp.end_fail hL.out HRE.out HGR.out HA.out HF.out.1 hh' HF.out.2.2
          subst hLn
          clear hL hh'
          go_wp2
          go_ret
          exact ⟨rfl, bthen hB hbr⟩
    ·
      have HOK := Lib.hid h1
      have HFIT := Lib.hid h2
      have h0 : 0 < g.length := by have := HFIT.out.len; have := HOK.out.i1; omega
      have hg0 : g.length ≤ regs.toNat := by have := HFIT.out.len; have := HOK.out.i2; omega
      obtain ⟨R, hR⟩ : ∃ R : Nat, regs = R := ⟨regs.toNat, by have := HOK.out.i1; have := HOK.out.i2; omega⟩
      subst hR
      rw [Int.toNat_natCast] at h5 hg0
      have hm := HFIT.out.m
      obtain ⟨m, hmE⟩ : ∃ m, (g.getD 0 []).length = m := ⟨_, rfl⟩
      have HRE := Lib.hid (show Rect m g by rw [← hmE]; exact HFIT.out.rect)
      rw [hmE] at hm h5
      have HGR := Lib.hid hg0
      have HA := Lib.hid (show ∀ n, n < code.length → (code.getD n default).a.toNat < R from fun n hn => by have := (ins_of HOK.out hn).a1; have := (ins_of HOK.out hn).a0; rw [Int.toNat_natCast] at *; omega)
      obtain ⟨va3, vc3, hve, -, hview⟩ := HIN5.out.view
      obtain ⟨rfl, -, rfl⟩ := Value.slice.inj hve
      have HVW := Lib.hid hview
      have HCOL := Lib.hid (show ∀ k j, Bd 64 ((colG g k).getD j 0) from fun k j => by rw [colG_get]; exact HBD.out j k)
      obtain ⟨gb, go, u0, rfl, hu0, hr0⟩ := HVW.out 0 h0
      obtain ⟨a0, x0, rfl, -⟩ := hr0
      rw [Nat.add_zero, show (g[0]'h0).length = m by rw [← hmE]; simp [h0]] at hu0
      have h0I : (0 : Int) < (g.length : Int) := by omega
      have hBw := Below.refl w5.heap.size w5
      have hol : (outsG outs h).length = outs.length := by simp [outsG]
      obtain ⟨la, lc, hle, -, hlv⟩ := h6.view
      obtain ⟨rfl, hrl, rfl⟩ := Value.slice.inj hle
      rw [hol] at hrl
      subst hrl
      have HLV := Lib.hid (show ∀ j (hj : j < outs.length), ∃ lb lo ua uc, ra = some ⟨lb, lo, none⟩ ∧ w5.cell? ⟨lb, lo + j, none⟩ = some (.slice ua m uc) ∧ PRow 0 w5 (.slice ua m uc) ((outsG outs h).getD j []) from fun j hj => by
        have hj2 : j < (outsG outs h).length := by rw [hol]; exact hj
        obtain ⟨lb, lo, u, e1, e2, e3⟩ := hlv j hj2
        have hr := startG_rect (regs := R) HRE.out
        have hl := startG_len (n := m) HGR.out
        have hlen := outsG_len (after_rect hr hl HA.out (Nat.le_refl _) h5) (outs := outs) (fun q hq => by obtain ⟨a, b⟩ := HOK.out.os q hq; rw [(after_len h5).trans hl]; have := HOK.out.i1; omega) j hj2
        obtain ⟨ua, uc, rfl⟩ := e3.ex
        rw [hlen] at e2 e3
        exact ⟨lb, lo, ua, uc, e1, e2, by rw [show (outsG outs h).getD j [] = (outsG outs h)[j] by simp [hj2]]; exact e3.row.rebase (Nat.zero_le _)⟩)
      have HF := Lib.hid h5
      have hos := HOK.out.o2
      have HBH := Lib.hid (show ∀ j k, Bd (64 + 65 * code.length) (((outsG outs h).getD j []).getD k 0) from fun j k => outsG_bd (after_bd (startG_bd HBD.out) (cs_of HOK.out) (Nat.le_refl _) h5) outs j k)
      clear h1 h2 h5 h6 hve hview hg0 hmE hle hlv hol
      go_wp2
      go_loopw [9, 48] (fun L x wr => ∃ k : Nat, k ≤ m ∧ x = .int .i64 k ∧ ∃ Lv : Int, L = .int .i64 Lv ∧ Hid (LeastUp code g R k Lv) ∧ Below w5.heap.size w5 wr) (fun _ x _ => m - (intOf x).toNat)
      case atStart => exact ⟨0, Nat.zero_le _, rfl, -1, rfl, Lib.hid (LeastUp.zero _ _ _), hBw⟩
      case round =>
        obtain ⟨k, hk, rfl, Lv, rfl, hL, hbr⟩ := hrel
        by_cases hlt : k < m
        ·
          have hltI : (k : Int) < (m : Int) := by omega
          obtain ⟨wq, hwq⟩ : ∃ wq, wr = wq := ⟨_, rfl⟩
          rw [hwq] at hbr ⊢
          clear hwq
          go_wp2
          go_loopw [11, 53] (fun v x wr => ∃ j : Nat, j ≤ g.length ∧ x = .int .i64 j ∧ Hid (OwnF IsInt 48 wq wr v j (fun i => (colG g k).getD i 0))) (fun _ x _ => g.length - (intOf x).toNat)
          case atStart => exact ⟨0, Nat.zero_le _, rfl, Lib.hid (OwnF.nil _ _ _ (Below.refl _ _))⟩
          case round =>
            obtain ⟨j, hj, rfl, hF⟩ := hrel
            have hbq := hF.out.bel
            obtain ⟨fa, fc, hfv⟩ : ∃ a c, _ = Value.slice a j c := by obtain ⟨a, c, h, _⟩ := hF.out.view; exact ⟨a, c, h⟩
            subst hfv
            have hb5r := bthen hbr hbq
            by_cases hlt2 : j < g.length
            · have hltJ : (j : Int) < (g.length : Int) := by omega
              obtain ⟨gb2, go2, u, hge, hu, hrow⟩ := HVW.out j hlt2
              cases hge
              have hlen : g[j].length = m := by have := HRE.out j hlt2; rwa [show g.getD j [] = g[j] by simp [hlt2]] at this
              obtain ⟨ar, xr, rfl, -, vr⟩ := hrow.view
              obtain ⟨rb, ro, nx, ax, lx, cx, rfl, c0, c1, hi⟩ := vr k (by omega)
              rw [hlen] at hu
              replace hu := bkeep hb5r hu
              replace c0 := bkeep hb5r c0
              replace c1 := bkeep hb5r c1
              have zu := cell_lt hu
              have zc := cell_lt c0
              have HIX := Lib.hid (show IsInt wr (.agg #[.bool nx, .slice ax lx cx]) ((colG g k).getD j 0) by rw [colG_get, show g.getD j [] = g[j] by simp [hlt2]]; exact hi.keep hb5r)
              have HSN := Lib.hid (snoc_fun (colG g k) j (by rw [colG_len]; exact hlt2))
              obtain ⟨z, hz⟩ : ∃ z, (colG g k).getD j 0 = z := ⟨_, rfl⟩
              rw [hz] at HSN HIX
              clear hz hi hrow vr hlen
              go_wp2_with (at_builtin; refine app_num elInt (by decide) lims_int (by rfl) (by rfl) hF.out HIX.out (by rfl) (by rfl) (by omega) ?_)
              intro v' w8 hF8 _ _
              have HF8 := Lib.hid (hF8.congr' HSN.out)
              clear hF8
              go_wp2
              exact ⟨⟨j + 1, by omega, by go_num, HF8⟩, by simp [intOf]; omega⟩
            · obtain rfl : j = g.length := by omega
              have HCV := Lib.hid (show PRow 0 wr (.slice fa g.length fc) (colG g k) from (show OwnF IsInt 48 wq wr (.slice fa g.length fc) (colG g k).length (fun i => (colG g k).getD i 0) by rw [colG_len]; exact hF.out).row.rebase (Nat.zero_le _))
              have hBr := bthen hB hb5r
              have ex := fun W (h : Below wr.heap.size wr W) => exRun_c ins (R : Int) ca oa cc oc code outs (.slice fa g.length fc) (colG g k) 64 W (HP.out.c.keep (bthen hBr h)) (HP.out.o.keep (bthen hBr h)) (HCV.out.keep lims_int h) (by rw [colG_len]; omega) (HCOL.out k) (by omega)
              have hBz := Below.refl wr.heap.size wr
              replace p0 := bkeep hb5r p0
              replace p1 := bkeep hb5r p1
              replace p2 := bkeep hb5r p2
              replace p3 := bkeep hb5r p3
              go_wp2_with fail
              refine (ex _ (by repeat (first | exact Below.refl _ _ | exact hBz | refine Below.drew ?_ | refine below_drewN ?_ _ | refine bset ?_ (by simp <;> omega) _ | refine bal ?_ _))).mono ?_
              rintro e w9 ⟨hp, hb9⟩
              have hb59 : Below w5.heap.size w5 w9 := bthen hb5r (by have hb9' : Below wr.heap.size wr w9 := bthen (by repeat (first | exact Below.refl _ _ | exact hBz | refine Below.drew ?_ | refine below_drewN ?_ _ | refine bset ?_ (by simp <;> omega) _ | refine bal ?_ _)) hb9; exact hb9')
              clear ex
              rcases hp with ⟨g1, _⟩ | ⟨_, g2, _⟩ | ⟨_, _, at', s, g3, g4, g5, rfl⟩ | ⟨_, _, s, v, g3, rfl, g4⟩
              · exact absurd HOK.out g1
              · exact absurd (by rw [colG_len]; exact HFIT.out.len) g2
              · rw [Int.toNat_natCast] at g4 g5
                have HFA := Lib.hid (show FailsAt code g R k at' from ⟨g3, ⟨s, g4⟩, g5⟩)
                clear g4 g5
                by_cases e1 : Lv < 0
                · have HN := Lib.hid (hL.out.new HFA.out (.inl e1))
                  have hq1 : decide (Lv < 0) = true := by simp; omega
                  go_wp2
                  exact ⟨⟨k + 1, by omega, by go_num, _, rfl, HN, hb59⟩, by simp [intOf]; omega⟩
                · have hq1 : decide (Lv < 0) = false := by simp; omega
                  have e3 : 0 ≤ Lv := by omega
                  by_cases e2 : (at' : Int) < Lv
                  · have HN := Lib.hid (hL.out.new HFA.out (.inr e2))
                    have hq2 : decide ((at' : Int) < Lv) = true := by simp; omega
                    go_wp2
                    exact ⟨⟨k + 1, by omega, by go_num, _, rfl, HN, hb59⟩, by simp [intOf]; omega⟩
                  · have HN := Lib.hid (hL.out.old HFA.out e3 (by omega))
                    have hq2 : decide ((at' : Int) < Lv) = false := by simp; omega
                    go_wp2
                    exact ⟨⟨k + 1, by omega, by go_num, _, rfl, HN, hb59⟩, by simp [intOf]; omega⟩
              · rw [Int.toNat_natCast] at g3
                have HG3 := Lib.hid g3
                have HN := Lib.hid (hL.out.ok (fun m => FailsAt.no HG3.out))
                have HV9 := Lib.hid g4
                obtain ⟨ea, ec, hev⟩ : ∃ a c, v = .slice a outs.length c := by obtain ⟨a, c, h, _⟩ := g4.view; exact ⟨a, c, h⟩
                subst hev
                clear g3 g4
                have HS := Lib.hid (show s = colG h k by
                  have e := HG3.out
                  rw [← colG_start g R m k, col_after (startG_rect HRE.out) (startG_len HGR.out) HA.out hlt (Nat.le_refl _) HF.out] at e
                  exact (Option.some.inj e).symm)
                go_wp2
                go_loopw [86] (fun x wi => ∃ j : Nat, j ≤ outs.length ∧ x = .int .i64 j ∧ Below w9.heap.size w9 wi) (fun x _ => outs.length - (intOf x).toNat)
                case atStart => exact ⟨0, Nat.zero_le _, rfl, Below.refl _ _⟩
                case round =>
                  rename World => wi
                  obtain ⟨j, hj, rfl, hbi⟩ := hrel
                  by_cases hlt3 : j < outs.length
                  · have hltJ : (j : Int) < (outs.length : Int) := by omega
                    have hb5i := bthen hb59 hbi
                    obtain ⟨lb, lo, ua, uc, hre, hu, hrow⟩ := HLV.out j hlt3
                    subst hre
                    obtain ⟨a', c', he, -, uv⟩ := hrow.view
                    obtain ⟨rfl, hm', rfl⟩ := Value.slice.inj he
                    obtain ⟨ub, uo, n1, a1, l1, c1, rfl, d0, d1, hi1⟩ := uv k (by omega)
                    obtain ⟨va', vc', hve2, -, -, hvi⟩ := HV9.out.view
                    obtain ⟨rfl, -, rfl⟩ := Value.slice.inj hve2
                    rcases hvi with hvi | ⟨vb, rfl, -, hvI⟩
                    · omega
                    obtain ⟨n2, a2, l2, c2, o0, o1, hi2⟩ := hvI.at0 hlt3
                    have HEQ := Lib.hid (show ((outsG outs h).getD j []).getD k 0 = (outsN outs s).getD j 0 by rw [HS.out]; exact colG_outs outs h j k)
                    obtain ⟨z, hz⟩ : ∃ z, (outsN outs s).getD j 0 = z := ⟨_, rfl⟩
                    rw [hz] at HEQ
                    have hi2' : IsInt w9 (.agg #[.bool n2, .slice a2 l2 c2]) z := by have := hi2; (try dsimp only at this); rwa [hz] at this
                    have hi1' : IsInt w5 (.agg #[.bool n1, .slice a1 l1 c1]) z := by have := hi1; rwa [HEQ.out] at this
                    have cc := fun W (q : Below wi.heap.size wi W) => cmp_c _ _ z z W (hi1'.keep (bthen hb5i q)) (hi2'.keep (bthen hbi q))
                    rw [show cmpI z z = 0 by unfold cmpI; simp] at cc
                    have HSS := Lib.hid (show ∀ W, Below wi.heap.size wi W → W.cell? ⟨lb, lo + j, none⟩ = some (.slice (some ⟨ub, uo, none⟩) m uc) ∧ W.cell? ⟨ub, uo + k * 2, none⟩ = some (.bool n1) ∧ W.cell? ⟨ub, uo + k * 2 + 1, none⟩ = some (.slice a1 l1 c1) ∧ W.cell? ⟨vb, j * 2, none⟩ = some (.bool n2) ∧ W.cell? ⟨vb, j * 2 + 1, none⟩ = some (.slice a2 l2 c2) from fun W q => ⟨bkeep (bthen hb5i q) hu, bkeep (bthen hb5i q) d0, bkeep (bthen hb5i q) d1, bkeep (bthen hbi q) o0, bkeep (bthen hbi q) o1⟩)
                    have hBv := Below.refl wi.heap.size wi
                    obtain ⟨y0, y1, y2, y3, y4⟩ := HSS.out wi hBv
                    have zy0 := cell_lt y0
                    have zy1 := cell_lt y1
                    have zy3 := cell_lt y3
                    clear hz hi1 hi2 hi1' hi2' hu d0 d1 o0 o1 hve2 he hvI uv hrow hm'
                    go_wp2
                    go_region_held3 (fun w' => w'.cell? ⟨lb, lo + j, none⟩ = some (.slice (some ⟨ub, uo, none⟩) m uc) ∧ w'.cell? ⟨ub, uo + k * 2, none⟩ = some (.bool n1) ∧ w'.cell? ⟨ub, uo + k * 2 + 1, none⟩ = some (.slice a1 l1 c1) ∧ w'.cell? ⟨vb, j * 2, none⟩ = some (.bool n2) ∧ w'.cell? ⟨vb, j * 2 + 1, none⟩ = some (.slice a2 l2 c2))
                      (first | (refine HSS.out _ ?_; (repeat (first | exact Below.refl _ _ | exact hBv | refine Below.drew ?_ | refine below_drewN ?_ _ | refine bset ?_ (by simp <;> omega) _ | refine bal ?_ _)); done) | fail)
                      (first
                        | (go_at_call 42; refine (cc _ ?_).mono ?_; (repeat (first | exact Below.refl _ _ | exact hBv | refine Below.drew ?_ | refine below_drewN ?_ _ | refine bset ?_ (by simp <;> omega) _ | refine bal ?_ _)); rintro e w10 ⟨rfl, hb10⟩; (have hBd : Below wi.heap.size wi w10 := bthen (by repeat (first | exact Below.refl _ _ | exact hBv | refine Below.drew ?_ | refine below_drewN ?_ _ | refine bset ?_ (by simp <;> omega) _ | refine bal ?_ _)) hb10; clear hBv; have hBv := hBd; clear hBd))
                        | fail)
                    all_goals
                      have hb910 := bthen hbi hBv
                      clear y0 y1 y2 y3 y4
                      go_wp2
                      exact ⟨⟨j + 1, by omega, by go_num, by repeat (first | exact Below.refl _ _ | exact hb910 | refine Below.drew ?_ | refine below_drewN ?_ _ | refine bset ?_ (by simp <;> omega) _ | refine bal ?_ _)⟩, by simp [intOf]; omega⟩
                  · obtain rfl : j = outs.length := by omega
                    have hb5i := bthen hb59 hbi
                    go_wp2
                    exact ⟨⟨k + 1, by omega, by go_num, _, rfl, HN, hb5i⟩, by simp [intOf]; omega⟩
        · obtain rfl : k = m := by omega
          have hLn : Lv = -1 := LeastUp.end_ok hL.out HRE.out HGR.out HA.out HF.out
          subst hLn
          replace p0 := bkeep hbr p0
          replace p1 := bkeep hbr p1
          replace p2 := bkeep hbr p2
          replace p3 := bkeep hbr p3
          clear hL
          go_wp2
          go_ret
          exact ⟨rfl, bthen hB hbr⟩
end Go.Proofs.YtannhpadoooedaaGreatDoor
