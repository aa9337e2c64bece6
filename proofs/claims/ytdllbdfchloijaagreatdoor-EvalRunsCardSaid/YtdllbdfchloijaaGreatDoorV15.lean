/- Texts of this seat, laid together: ExE, Dec, TxtR, EvD, RwA, RwB. Each opens with its own remark, which says what it proves, and under which conditions. -/
import Derived.Test.YtdllbdfchloijaaGreatDoorV14
import Derived.Test.YtdllbdfchloijaaGreatDoorV13
import Derived.Test.YtdllbdfchloijaaGreatDoorV11
import Derived.Test.YtdllbdfchloijaaGreatDoorV04
import Derived.Test.YtdllbdfchloijaaGreatDoorV10
import Derived.Test.YtdllbdfchloijaaGreatDoorV05
import Derived.Laws.IdiomStrings
import Derived.Laws.BytesArg
import Derived.Deep.LoopGhost
import Derived.Test.YtdllbdfchloijaaGreatDoorV06
import Derived.Deep.DrawnRows
set_option linter.unusedVariables false
set_option linter.unusedSimpArgs false
/- exact: right, Run. -/
namespace Go.Proofs.YtdllbdfchloijaaGreatDoor
open Num
open Go.ChangeShapes Go.WideShapes Go.ChangeAt Go.RowKit
set_option linter.unusedVariables false
set_option linter.unusedSimpArgs false
attribute [local go_sem ↓] Go.wp_at_zero Go.wp_at_succ
/-- what right answers -/
def RightE (ins regs : Int) (code : List Ins) (outs : List Int) (n : Int) (w : World) (e : Ending) (w' : World) : Prop :=
  ((¬ ProgOk ins regs code outs ∧ e = .returned (.int .i64 80)) ∨ (ProgOk ins regs code outs ∧ n ≠ ins ∧ e = .returned (.int .i64 5)) ∨ (ProgOk ins regs code outs ∧ n = ins ∧ e = .returned (.int .i64 0))) ∧ Below w.heap.size w w'
set_option maxRecDepth 100000 in
set_option maxHeartbeats 2000000 in
theorem right_c (ins regs : Int) (ca oa : Option Addr) (cc oc : Nat) (code : List Ins) (outs : List Int) (n : Int) (w : World) (hc : InsV w ca cc code) (ho : IntsV w oa oc outs) :
    Calls Tryz.prog 58 #[.agg #[.int .i64 ins, .int .i64 regs, .slice ca code.length cc, .slice oa outs.length oc], .int .i64 n] w (RightE ins regs code outs n w) := by
  have kc := fun W (h : Below w.heap.size w W) => check_c ins regs ca oa cc oc code outs W (hc.keep h) (ho.keep h)
  clear hc ho
  have hB := Below.refl w.heap.size w
  go_enter Tryz.func58, Tryz.ntmps58
  go_wp2_with fail
  refine (kc _ (by repeat (first | exact Below.refl _ _ | exact hB | refine Below.drew ?_ | refine below_drewN ?_ _ | refine bset ?_ (by simp <;> omega) _ | refine bal ?_ _))).mono ?_
  rintro e w1 ⟨r, s, rfl, hp, hb1⟩
  have p0 : w1.cell? ⟨w.heap.size, 0, none⟩ = some (.int .i64 ins) := bkc hb1
  have zp0 := cell_lt p0
  have hB : Below w.heap.size w w1 := bthen (by repeat (first | exact Below.refl _ _ | exact hB | refine Below.drew ?_ | refine below_drewN ?_ _ | refine bset ?_ (by simp <;> omega) _ | refine bal ?_ _)) hb1
  have hz : w.heap.size ≤ w1.heap.size := hB.size
  clear kc
  rcases hp with ⟨hok, rfl, rfl⟩ | ⟨hno, rfl⟩
  · have HOK := Lib.hid hok
    clear hok
    by_cases e : n = ins
    · have HE := Lib.hid e
      have hq : (n != ins) = false := by simpa using e
      clear e
      go_wp2
      go_ret
      exact ⟨.inr (.inr ⟨HOK.out, HE.out, rfl⟩), hB⟩
    · have HE := Lib.hid e
      have hq : (n != ins) = true := by simpa using e
      clear e
      go_wp2
      go_ret
      exact ⟨.inr (.inl ⟨HOK.out, HE.out, rfl⟩), hB⟩
  · have HNO := Lib.hid hno
    clear hno
    go_wp2
    go_ret
    exact ⟨.inl ⟨HNO.out, rfl⟩, hB⟩
/-- run's answer, an int -/
theorem runNRes {code : List Ins} {r : List Int} {rb : Nat} {w : World} {e : Ending} {w' : World} (h : RunNPost code r rb w e w') : (∃ q : Int, e = .returned (.int .i64 q) ∧ ((∃ (m : Nat) (s : List Int), m < code.length ∧ afterN code r m = some s ∧ afterN code r (m + 1) = none ∧ q = m) ∨ (∃ s, afterN code r code.length = some s ∧ q = -1 ∧ IntsF IsInt w' rb 0 r.length (fun j => s.getD j 0) ∧ typOf w' rb = some 50))) ∧ Out (fun k => k = rb) w w' := by
  obtain ⟨h, hO⟩ := h
  refine ⟨?_, hO⟩
  rcases h with ⟨m, s, h1, h2, h3, rfl⟩ | ⟨s, h1, rfl, h2, h3⟩
  · exact ⟨_, rfl, .inl ⟨m, s, h1, h2, h3, rfl⟩⟩
  · exact ⟨_, rfl, .inr ⟨s, h1, rfl, h2, h3⟩⟩
/-- what Run answers -/
def ExRunPost (ins regs : Int) (code : List Ins) (outs : List Int) (l : List Int) (w : World) (e : Ending) (w' : World) : Prop :=
  ((¬ ProgOk ins regs code outs ∧ e = .returned (.tuple #[.slice none 0 0, .int .i64 0, .int .i64 80])) ∨
   (ProgOk ins regs code outs ∧ (l.length : Int) ≠ ins ∧ e = .returned (.tuple #[.slice none 0 0, .int .i64 0, .int .i64 5])) ∨
   (ProgOk ins regs code outs ∧ (l.length : Int) = ins ∧ ∃ (m : Nat) (s : List Int), m < code.length ∧ afterN code (startN l regs.toNat) m = some s ∧ afterN code (startN l regs.toNat) (m + 1) = none ∧ e = .returned (.tuple #[.slice none 0 0, .int .i64 m, .int .i64 20])) ∨
   (ProgOk ins regs code outs ∧ (l.length : Int) = ins ∧ ∃ (s : List Int) (v : Value), afterN code (startN l regs.toNat) code.length = some s ∧ e = .returned (.tuple #[v, .int .i64 0, .int .i64 0]) ∧ OwnF IsInt 50 w w' v outs.length (fun k => (outsN outs s).getD k 0))) ∧ Below w.heap.size w w'
set_option maxRecDepth 100000 in
set_option maxHeartbeats 16000000 in
theorem exRun_c (ins regs : Int) (ca oa : Option Addr) (cc oc : Nat) (code : List Ins) (outs : List Int) (v : Value) (l : List Int) (K : Nat) (w : World) (hc : InsV w ca cc code) (ho : IntsV w oa oc outs) (hv : PRow 0 w v l) (hl : l.length ≤ 1099511627776) (hb : ∀ j, Bd K (l.getD j 0)) (hK : K ≤ 2147483648) :
    Calls Tryz.prog 26 #[.agg #[.int .i64 ins, .int .i64 regs, .slice ca code.length cc, .slice oa outs.length oc], v] w (ExRunPost ins regs code outs l w) := by
  have kr := fun W (h : Below w.heap.size w W) => right_c ins regs ca oa cc oc code outs l.length W (hc.keep h) (ho.keep h)
  have HC := Lib.hid (And.intro hc ho)
  have HV := Lib.hid hv
  have HBD := Lib.hid hb
  obtain ⟨va, vc, rfl, -⟩ := hv
  clear hc ho hb
  have hB := Below.refl w.heap.size w
  go_enter Tryz.func26, Tryz.ntmps26
  go_wp2_with fail
  refine (kr _ (by repeat (first | exact Below.refl _ _ | exact hB | refine Below.drew ?_ | refine below_drewN ?_ _ | refine bset ?_ (by simp <;> omega) _ | refine bal ?_ _))).mono ?_
  rintro e w1 ⟨hp, hb1⟩
  have p0 : w1.cell? ⟨w.heap.size, 0, none⟩ = some (.int .i64 ins) := bkc hb1
  have zp0 := cell_lt p0
  have p1 : w1.cell? ⟨w.heap.size, 1, none⟩ = some (.int .i64 regs) := bkc hb1
  have p2 : w1.cell? ⟨w.heap.size, 2, none⟩ = some (.slice ca code.length cc) := bkc hb1
  have p3 : w1.cell? ⟨w.heap.size, 3, none⟩ = some (.slice oa outs.length oc) := bkc hb1
  have hB : Below w.heap.size w w1 := bthen (by repeat (first | exact Below.refl _ _ | exact hB | refine Below.drew ?_ | refine below_drewN ?_ _ | refine bset ?_ (by simp <;> omega) _ | refine bal ?_ _)) hb1
  have hz : w.heap.size ≤ w1.heap.size := hB.size
  clear kr
  rcases hp with ⟨hno, rfl⟩ | ⟨hok, hne, rfl⟩ | ⟨hok, hle, rfl⟩
  · have HNO := Lib.hid hno
    clear hno
    go_wp2
    go_ret3
    exact ⟨.inl ⟨HNO.out, rfl⟩, hB⟩
  · have HNO := Lib.hid (And.intro hok hne)
    clear hok hne
    go_wp2
    go_ret3
    exact ⟨.inr (.inl ⟨HNO.out.1, HNO.out.2, rfl⟩), hB⟩
  · have HOK := Lib.hid hok
    have HLE := Lib.hid hle
    obtain ⟨R, hR⟩ : ∃ R : Nat, regs = R := ⟨regs.toNat, by have := hok.i1; have := hok.i2; omega⟩
    have hlR : l.length ≤ R := by have := hok.i2; omega
    have hR128 : R ≤ 128 := by have := hok.r1; omega
    clear hok hle
    subst hR
    have hmk := mkInts R (by omega)
    have hw1 : w.heap.size < w1.heap.size := zp0
    go_wp2_with (refine copy_ints (o := ⟨some 25, _, _, _, _, _⟩) (g := w1.heap.size) (R := R) (ad := va) (l := l) (c := vc) (base := 0) rfl rfl rfl rfl (HV.out.keep lims_int (bal hB _)) hlR (MapKept.heap_alloc w1 _).1 ?_)
    intro nn w2 hI2 hF2 hT2 hO2
    have hne : ¬ w.heap.size = w1.heap.size := by omega
    have hO1 : Out (fun k => k = w1.heap.size) w1 w2 := ((Out.refl _ w1).alloc _).trans hO2
    have HP := Lib.hid (show ∀ W, Out (fun k => k = w1.heap.size) w1 W → W.cell? ⟨w.heap.size, 0, none⟩ = some (.int .i64 ins) ∧ W.cell? ⟨w.heap.size, 1, none⟩ = some (.int .i64 (R : Int)) ∧ W.cell? ⟨w.heap.size, 2, none⟩ = some (.slice ca code.length cc) ∧ W.cell? ⟨w.heap.size, 3, none⟩ = some (.slice oa outs.length oc) from fun W h => ⟨okeep h p0 hne, okeep h p1 hne, okeep h p2 hne, okeep h p3 hne⟩)
    have HI2 := Lib.hid (And.intro hI2 (And.intro hF2 hT2))
    have HB1 := Lib.hid hB
    clear hI2 hF2 hT2 hO2 hmk p0 p1 p2 p3
    obtain ⟨p0, p1, p2, p3⟩ := HP.out w2 hO1
    have hzz : w1.heap.size < w2.heap.size := HI2.out.2.1.1
    have HSL := Lib.hid (startN_len hlR)
    have rx := fun W (k : Below w2.heap.size w2 W) => runN_c ins (R : Int) ca oa cc outs.length oc code (startN l R) K w1.heap.size 61 #[] W (HC.out.1.keep ((HB1.out.trans (hO1.to_below (fun q hq _ e => by omega) HB1.out.size)).trans (k.mono (by omega)))) (fun n hn => by rw [HSL.out]; exact ins_of HOK.out hn) HOK.out.c1 (cs_of HOK.out) (by rw [HSL.out]; exact hR128) (by rw [HSL.out]; exact HI2.out.1.keep lims_int k) (HI2.out.2.1.keep k) (typ_keep HI2.out.2.2 k) (fun j => by
      by_cases e : j < l.length
      · rw [startN_lt e]; exact HBD.out j
      · rw [startN_ge (by omega)]; exact bd_zero) hK told_c (ens Tryz.func61 (by kernel_rfl) rfl) (fun b off e hl e2 => by
      rcases HC.out.1 with h0 | ⟨b', off', h1, _, h3⟩
      · rw [h0] at hl; simp at hl
      · rw [e] at h1; cases h1
        have := cell_lt (h3 0 hl).c0
        omega)
    rw [HSL.out] at rx
    have hBc := Below.refl w2.heap.size w2
    go_wp2
    go_region_held3 (fun w' => w'.cell? ⟨w.heap.size, 0, none⟩ = some (.int .i64 ins) ∧ w'.cell? ⟨w.heap.size, 1, none⟩ = some (.int .i64 (R : Int)) ∧ w'.cell? ⟨w.heap.size, 2, none⟩ = some (.slice ca code.length cc) ∧ w'.cell? ⟨w.heap.size, 3, none⟩ = some (.slice oa outs.length oc))
      (first | (refine HP.out _ ?_; refine hO1.below ?_; (repeat (first | exact Below.refl _ _ | exact hBc | refine Below.drew ?_ | refine below_drewN ?_ _ | refine bset ?_ (by simp <;> omega) _ | refine bal ?_ _)); done) | (refine HP.out _ (hO1.trans ?_); (repeat (first | exact hO4 | refine Out.drew ?_ | refine Out.drewN ?_ _)); done) | fail)
      (first
        | (go_at_call 60; refine (numbers_c _).mono ?_; rintro e w3 ⟨rfl, hb3⟩; (have hBd : Below w2.heap.size w2 w3 := bthen (by repeat (first | exact Below.refl _ _ | exact hBc | refine Below.drew ?_ | refine below_drewN ?_ _ | refine bset ?_ (by simp <;> omega) _ | refine bal ?_ _)) hb3; clear hBc; have hBc := hBd; clear hBd))
        | (go_at_call 59; refine (rx _ ?_).mono ?_; (repeat (first | exact Below.refl _ _ | exact hBc | refine Below.drew ?_ | refine below_drewN ?_ _ | refine bset ?_ (by simp <;> omega) _ | refine bal ?_ _)); rintro e w4 hr4; obtain ⟨⟨q, rfl, hres⟩, hO4'⟩ := runNRes hr4; have hO4 : Out (fun k => k = w1.heap.size) w2 w4 := (Out.of_below _ (by repeat (first | exact Below.refl _ _ | exact hBc | refine Below.drew ?_ | refine below_drewN ?_ _ | refine bset ?_ (by simp <;> omega) _ | refine bal ?_ _))).trans hO4'; have HRES := Lib.hid hres; clear hres hr4 hO4')
        | fail)
    all_goals
      have hO14 := hO1.trans hO4
      have hB4 : Below w.heap.size w w4 := HB1.out.trans (hO14.to_below (fun q hq _ e => by omega) HB1.out.size)
      clear rx hBc p0 p1 p2 p3
      rcases HRES.out with ⟨m, s, h1, h2, h3, rfl⟩ | ⟨s, h1, rfl, h2, h3⟩
      · have HH := Lib.hid (And.intro h2 h3)
        clear h2 h3
        go_wp2
        go_ret3
        exact ⟨.inr (.inr (.inl ⟨HOK.out, HLE.out, m, s, h1, by rw [Int.toNat_natCast]; exact HH.out.1, by rw [Int.toNat_natCast]; exact HH.out.2, rfl⟩)), by repeat (first | exact Below.refl _ _ | exact hB4 | refine Below.drew ?_ | refine below_drewN ?_ _ | refine bset ?_ (by simp <;> omega) _ | refine bal ?_ _)⟩
      · have HH := Lib.hid (And.intro h1 h2)
        clear h1 h2 h3
        obtain ⟨p0, p1, p2, p3⟩ := HP.out w4 hO14
        have hsl := (afterN_len HH.out.1).trans HSL.out
        have HL := Lib.hid hsl
        clear hsl
        have hBw := Below.refl w4.heap.size w4
        go_wp2
        refine wp_name fun w5 hW5 => ?_
        have hb45 : Below w4.heap.size w4 w5 := by rw [hW5]; repeat (first | exact Below.refl _ _ | exact hBw | refine Below.drew ?_ | refine below_drewN ?_ _ | refine bset ?_ (by simp <;> omega) _ | refine bal ?_ _)
        clear hW5 p0 p1 p2 p3
        obtain ⟨p0, p1, p2, p3⟩ := HP.out w5 (hO14.below hb45)
        have hB5 := bthen hB4 hb45
        go_loopw [10, 36] (fun v x wr => ∃ k : Nat, k ≤ outs.length ∧ x = .int .i64 k ∧ Hid (OwnF IsInt 50 w5 wr v k (fun i => (outsN outs s).getD i 0))) (fun _ x _ => outs.length - (intOf x).toNat)
        case atStart => exact ⟨0, Nat.zero_le _, rfl, Lib.hid (OwnF.nil _ _ _ (Below.refl _ _))⟩
        case round =>
          obtain ⟨k, hk, rfl, hF⟩ := hrel
          have hbr := hF.out.bel
          have hBr := bthen hB5 hbr
          obtain ⟨fa, fc, hfv⟩ : ∃ a c, _ = Value.slice a k c := by obtain ⟨a, c, h, _⟩ := hF.out.view; exact ⟨a, c, h⟩
          subst hfv
          have hol := HOK.out.o2
          by_cases hlt : k < outs.length
          · have hltI : (k : Int) < (outs.length : Int) := by omega
            obtain ⟨q1, q2⟩ := HOK.out.os k hlt
            rcases HC.out.2 with h0 | ⟨ob, off, rfl, hcap, hcell⟩
            · rw [h0] at hlt; simp at hlt
            have hc := bkeep hBr (hcell k hlt)
            have zob := cell_lt hc
            obtain ⟨r, hr⟩ : ∃ r : Nat, outs.getD k 0 = r := ⟨(outs.getD k 0).toNat, by omega⟩
            rw [hr] at hc q1 q2
            have hrl : r < R := by omega
            have HE := Lib.hid (show (outsN outs s).getD k 0 = s.getD r 0 by
              unfold outsN
              have e : outs[k]? = some (r : Int) := by rw [← hr]; simp [hlt]
              rw [List.getD_eq_getElem?_getD, List.getElem?_map, e]; simp)
            obtain ⟨nx, ax, lx, cx, o0, o1, hi⟩ := (HH.out.2.keep lims_int (bthen hb45 hbr)).at0 (by rw [HSL.out]; exact hrl)
            have zo := cell_lt o0
            have HIX := Lib.hid hi
            have HSN : Hid (∀ j, j < k + 1 → (fun i => if i = k then s.getD r 0 else (outsN outs s).getD i 0) j = (outsN outs s).getD j 0) := Lib.hid (fun j hj => by
              dsimp only; split
              · subst_vars; rw [HE.out]
              · rfl)
            obtain ⟨z, hz⟩ : ∃ z, s.getD r 0 = z := ⟨_, rfl⟩
            rw [hz] at HSN
            have HIX := Lib.hid (show IsInt wr (.agg #[.bool nx, .slice ax lx cx]) z by have := HIX.out; (try dsimp only at this); rwa [hz] at this)
            clear hi hz hcell hr
            go_wp2_with (at_builtin; refine app_num elInt (by decide) lims_int (by rfl) (by rfl) hF.out HIX.out (by rfl) (by rfl) (by omega) ?_)
            intro v' w8 hF8 _ _
            have HF8 := Lib.hid (hF8.congr' HSN.out)
            clear hF8
            go_wp2
            exact ⟨⟨k + 1, by omega, by go_num, HF8⟩, by simp [intOf]; omega⟩
          · obtain rfl : k = outs.length := by omega
            go_wp2
            go_ret3
            exact ⟨.inr (.inr (.inr ⟨HOK.out, HLE.out, s, _, by rw [Int.toNat_natCast]; exact HH.out.1, rfl, OwnF.rebase' hB5 hF.out⟩)), hBr⟩
end Go.Proofs.YtdllbdfchloijaaGreatDoor

/- Plain: decimal digits, low one first; nine at a time; a number's text. -/
namespace Go.Proofs.YtdllbdfchloijaaGreatDoor.Num
/-- the decimal digits of a number, low one first; none of 0 -/
def lowD : Nat → List Nat
  | 0 => []
  | n + 1 => (n + 1) % 10 :: lowD ((n + 1) / 10)
decreasing_by omega
theorem lowD_zero : lowD 0 = [] := by rw [lowD]
theorem lowD_pos {n : Nat} (h : 0 < n) : lowD n = n % 10 :: lowD (n / 10) := by
  cases n with
  | zero => omega
  | succ n => rw [lowD]
theorem lowD_lt (n : Nat) : ∀ d ∈ lowD n, d < 10 := by
  induction n using Nat.strongRecOn with
  | _ n ih =>
    intro d hd
    by_cases h : 0 < n
    · rw [lowD_pos h] at hd
      rcases List.mem_cons.1 hd with rfl | hd
      · omega
      · exact ih (n / 10) (by omega) d hd
    · obtain rfl : n = 0 := by omega
      rw [lowD_zero] at hd; cases hd
theorem lowD_ne {n : Nat} (h : 0 < n) : lowD n ≠ [] := by rw [lowD_pos h]; simp
theorem lowD_len (k : Nat) : ∀ n, n < 2 ^ k → (lowD n).length ≤ k := by
  induction k with
  | zero => intro n h; obtain rfl : n = 0 := by simpa using h
            rw [lowD_zero]; simp
  | succ k ih =>
    intro n h
    by_cases h0 : 0 < n
    · rw [lowD_pos h0]
      have := ih (n / 10) (by rw [Nat.pow_succ] at h; omega)
      simp; exact this
    · obtain rfl : n = 0 := by omega
      rw [lowD_zero]; simp
/-- the low k digits of a number, with noughts -/
def padD : Nat → Nat → List Nat
  | 0, _ => []
  | k + 1, n => n % 10 :: padD k (n / 10)
theorem padD_len (k n : Nat) : (padD k n).length = k := by
  induction k generalizing n with
  | zero => rfl
  | succ k ih => simp [padD, ih]
theorem padD_snoc (k n : Nat) : padD (k + 1) n = padD k n ++ [n / 10 ^ k % 10] := by
  induction k generalizing n with
  | zero => simp [padD]
  | succ k ih =>
    rw [padD, ih (n / 10)]
    show _ = (n % 10 :: padD k (n / 10)) ++ _
    rw [List.cons_append, Nat.div_div_eq_div_mul, Nat.pow_succ, Nat.mul_comm 10]
/-- a number's digits: its low k, then those of what is above -/
theorem lowD_split (k : Nat) : ∀ n, 10 ^ k ≤ n → lowD n = padD k n ++ lowD (n / 10 ^ k) := by
  induction k with
  | zero => intro n _; simp [padD]
  | succ k ih =>
    intro n h
    have hp : 0 < 10 ^ k := Nat.pow_pos (by omega)
    rw [Nat.pow_succ] at h
    have hn : 0 < n := by omega
    rw [lowD_pos hn, ih (n / 10) (by rw [Nat.le_div_iff_mul_le (by omega)]; exact h), padD, Nat.div_div_eq_div_mul, Nat.pow_succ, Nat.mul_comm 10]
    rfl
/-- of a short number: with noughts above -/
theorem padD_low (k : Nat) : ∀ n, n < 10 ^ k → padD k n = lowD n ++ List.replicate (k - (lowD n).length) 0 ∧ (lowD n).length ≤ k := by
  induction k with
  | zero =>
    intro n h
    obtain rfl : n = 0 := by simpa using h
    simp [padD, lowD_zero]
  | succ k ih =>
    intro n h
    have h2 : n / 10 < 10 ^ k := by rw [Nat.pow_succ] at h; omega
    obtain ⟨e, hl⟩ := ih (n / 10) h2
    by_cases h0 : 0 < n
    · rw [padD, e, lowD_pos h0]
      refine ⟨?_, by simpa using hl⟩
      simp
    · obtain rfl : n = 0 := by omega
      rw [padD, e]
      simp [lowD_zero, List.replicate_succ]
theorem padD_mod (k : Nat) : ∀ n, padD k (n % 10 ^ k) = padD k n := by
  induction k with
  | zero => intro n; rfl
  | succ k ih =>
    intro n
    rw [padD, padD]
    have e1 : n % 10 ^ (k + 1) % 10 = n % 10 := by
      rw [Nat.pow_succ, Nat.mul_comm]
      exact Nat.mod_mul_right_mod n 10 (10 ^ k)
    have e2 : n % 10 ^ (k + 1) / 10 = n / 10 % 10 ^ k := by
      rw [Nat.pow_succ, Nat.mul_comm]
      exact Nat.mod_mul_right_div_self n 10 (10 ^ k)
    rw [e1, e2, ih]
/-- a number nine digits at a time, low ones first -/
def pcs : Nat → List Nat
  | 0 => []
  | n + 1 => (n + 1) % 1000000000 :: pcs ((n + 1) / 1000000000)
decreasing_by omega
theorem pcs_zero : pcs 0 = [] := by rw [pcs]
theorem pcs_pos {n : Nat} (h : 0 < n) : pcs n = n % 1000000000 :: pcs (n / 1000000000) := by
  cases n with
  | zero => omega
  | succ n => rw [pcs]
theorem pcs_lt (n : Nat) : ∀ d ∈ pcs n, d < 1000000000 := by
  induction n using Nat.strongRecOn with
  | _ n ih =>
    intro d hd
    by_cases h : 0 < n
    · rw [pcs_pos h] at hd
      rcases List.mem_cons.1 hd with rfl | hd
      · omega
      · exact ih (n / 1000000000) (by omega) d hd
    · obtain rfl : n = 0 := by omega
      rw [pcs_zero] at hd; cases hd
theorem pcs_ne {n : Nat} (h : 0 < n) : pcs n ≠ [] := by rw [pcs_pos h]; simp
/-- the pieces' digits: the last without noughts above -/
def lowP : List Nat → List Nat
  | [] => []
  | [p] => lowD p
  | p :: q :: l => padD 9 p ++ lowP (q :: l)
theorem lowP_pcs (n : Nat) : lowP (pcs n) = lowD n := by
  induction n using Nat.strongRecOn with
  | _ n ih =>
    by_cases h : 0 < n
    · rw [pcs_pos h]
      by_cases h2 : 0 < n / 1000000000
      · have e := ih (n / 1000000000) (by omega)
        rw [pcs_pos h2] at e ⊢
        rw [lowP, e, lowD_split 9 n (by omega)]
        have := padD_mod 9 n
        rw [show (10 : Nat) ^ 9 = 1000000000 from rfl] at *
        rw [this]
      · have h3 : n / 1000000000 = 0 := by omega
        rw [h3, pcs_zero, lowP, Nat.mod_eq_of_lt (by omega)]
    · obtain rfl : n = 0 := by omega
      rw [pcs_zero, lowD_zero]; rfl
/-- the last piece of a number is not 0 -/
theorem pcs_last (n : Nat) : ∀ h : pcs n ≠ [], 0 < (pcs n).getLast h := by
  induction n using Nat.strongRecOn with
  | _ n ih =>
    intro h
    have hn : 0 < n := by
      rcases Nat.eq_zero_or_pos n with rfl | h'
      · exact absurd pcs_zero h
      · exact h'
    by_cases h2 : 0 < n / 1000000000
    · have h3 := ih (n / 1000000000) (by omega) (pcs_ne h2)
      have e : (pcs n).getLast h = (pcs (n / 1000000000)).getLast (pcs_ne h2) := by
        have : ∀ l (hl : l ≠ []), l = n % 1000000000 :: pcs (n / 1000000000) → l.getLast hl = (pcs (n / 1000000000)).getLast (pcs_ne h2) := by
          intro l hl el; subst el; exact List.getLast_cons (pcs_ne h2)
        exact this _ h (pcs_pos hn)
      rw [e]; exact h3
    · have e : (pcs n).getLast h = n % 1000000000 := by
        have : ∀ l (hl : l ≠ []), l = [n % 1000000000] → l.getLast hl = n % 1000000000 := by
          intro l hl el; subst el; rfl
        exact this _ h (by rw [pcs_pos hn, show n / 1000000000 = 0 by omega, pcs_zero])
      rw [e]
      have : n < 1000000000 := by omega
      rw [Nat.mod_eq_of_lt this]; exact hn
/-- digits as bytes, high one first -/
def asc (l : List Nat) : List UInt8 := l.reverse.map fun d => UInt8.ofNat (48 + d)
theorem asc_append (l m : List Nat) : asc (l ++ m) = asc m ++ asc l := by simp [asc]
theorem lowD_last (n : Nat) : ∀ h : lowD n ≠ [], 0 < (lowD n).getLast h := by
  induction n using Nat.strongRecOn with
  | _ n ih =>
    intro h
    have hn : 0 < n := by
      rcases Nat.eq_zero_or_pos n with rfl | h'
      · exact absurd lowD_zero h
      · exact h'
    by_cases h2 : 0 < n / 10
    · have h3 := ih (n / 10) (by omega) (lowD_ne h2)
      have e : (lowD n).getLast h = (lowD (n / 10)).getLast (lowD_ne h2) := by
        have : ∀ l (hl : l ≠ []), l = n % 10 :: lowD (n / 10) → l.getLast hl = (lowD (n / 10)).getLast (lowD_ne h2) := by
          intro l hl el; subst el; exact List.getLast_cons (lowD_ne h2)
        exact this _ h (lowD_pos hn)
      rw [e]; exact h3
    · have e : (lowD n).getLast h = n % 10 := by
        have : ∀ l (hl : l ≠ []), l = [n % 10] → l.getLast hl = n % 10 := by
          intro l hl el; subst el; rfl
        exact this _ h (by rw [lowD_pos hn, show n / 10 = 0 by omega, lowD_zero])
      rw [e]; omega
/-- a number's text -/
def natTxt (n : Nat) : List UInt8 := if n = 0 then [48] else asc (lowD n)
def intTxt (z : Int) : List UInt8 := (if z < 0 then [45] else []) ++ natTxt z.natAbs
/-- the highest piece, its noughts ahead struck -/
theorem asc_pad_top {p : Nat} (h0 : 0 < p) (h : p < 1000000000) : (asc (padD 9 p)).dropWhile (· == 48) = asc (lowD p) := by
  obtain ⟨e, _⟩ := padD_low 9 p h
  rw [e, asc_append]
  have hz : asc (List.replicate (9 - (lowD p).length) 0) = List.replicate (9 - (lowD p).length) 48 := by simp [asc]
  rw [hz]
  have hd : ∀ (n : Nat) (l : List UInt8), (List.replicate n 48 ++ l).dropWhile (· == 48) = l.dropWhile (· == 48) := by
    intro n l
    induction n with
    | zero => rfl
    | succ n ih => rw [List.replicate_succ, List.cons_append, List.dropWhile_cons]; simp [ih]
  rw [hd]
  have hne := lowD_ne h0
  have hl := lowD_last p hne
  have hlt := lowD_lt p _ (List.getLast_mem hne)
  have e2 : asc (lowD p) = UInt8.ofNat (48 + (lowD p).getLast hne) :: asc (lowD p).dropLast := by
    conv => lhs; rw [← List.dropLast_concat_getLast hne]
    rw [asc_append]; rfl
  have h3 : (UInt8.ofNat (48 + (lowD p).getLast hne) == 48) = false := by
    rw [beq_eq_false_iff_ne]
    intro h
    have := congrArg UInt8.toNat h
    rw [UInt8.toNat_ofNat'] at this
    have h48 : (48 : UInt8).toNat = 48 := rfl
    rw [h48] at this
    omega
  rw [e2, List.dropWhile_cons, if_neg]
  intro h
  have h4 : (UInt8.ofNat (48 + (lowD p).getLast hne) == 48) = true := h
  rw [h3] at h4; cases h4
/-- the pieces from the i-th on -/
theorem lowP_cons {p : Nat} {l : List Nat} (h : l ≠ []) : lowP (p :: l) = padD 9 p ++ lowP l := by
  cases l with
  | nil => exact absurd rfl h
  | cons q l => rfl
theorem asc_len (l : List Nat) : (asc l).length = l.length := by simp [asc]
end Go.Proofs.YtdllbdfchloijaaGreatDoor.Num

/- Rows of bytes of the call's own; the reference's Text. -/
namespace Go.Proofs.YtdllbdfchloijaaGreatDoor
open Num
open Go.ChangeShapes Go.WideShapes Go.ChangeAt Go.RowKit
set_option linter.unusedVariables false
set_option linter.unusedSimpArgs false
theorem info8 : (Tryz.prog.info? 5).map (fun i => (i.zero, i.size, i.bytes)) = some (some (.int .u8 0), 1, 1) := by kernel_rfl
theorem el8 : Elt Tryz.prog 100 5 1 1 := Elt.mk' Tryz.underlying100 info8 rfl (by decide) (by decide)
/-- bytes of the call's own -/
def Own8 (w0 wr : World) (v : Value) (L : List UInt8) : Prop := OwnE 5 1 w0 wr v L.length (Lib.byteCells L)
theorem Own8.below {w0 wr w' : World} {v : Value} {L : List UInt8} (h : Own8 w0 wr v L) (hb : Below wr.heap.size wr w') : Own8 w0 w' v L := OwnE.below h hb
theorem Own8.nil {w0 wr : World} (hb : Below w0.heap.size w0 wr) : Own8 w0 wr (.slice none 0 0) [] := OwnE.nil _ _ hb
theorem bcells_app (l m : List UInt8) : Lib.byteCells (l ++ m) = Lib.byteCells l ++ Lib.byteCells m := by simp [Lib.byteCells]
theorem bcells_get (l : List UInt8) (k : Nat) (h : k < l.length) : (Lib.byteCells l)[k]? = some (.int .u8 ((l.getD k 0).toNat : Nat)) := by simp [Lib.byteCells, h]
theorem Own8.ex {w0 wr : World} {v : Value} {L : List UInt8} (h : Own8 w0 wr v L) : (v = .slice none 0 0 ∧ L = []) ∨ ∃ g cap, v = .slice (some ⟨g, 0, none⟩) L.length cap ∧ w0.heap.size ≤ g ∧ L.length ≤ cap := by
  obtain ⟨⟨h0, h⟩, _⟩ := h
  rcases h with ⟨rfl, h1⟩ | ⟨g, cap, cur, rfl, hg, _, hc, _⟩
  · exact .inl ⟨rfl, List.length_eq_zero_iff.1 h1⟩
  · exact .inr ⟨g, cap, rfl, hg, hc⟩
theorem Own8.cell {w0 wr : World} {g cap : Nat} {L : List UInt8} (h : Own8 w0 wr (.slice (some ⟨g, 0, none⟩) L.length cap) L) (k : Nat) (hk : k < L.length) : wr.cell? ⟨g, k, none⟩ = some (.int .u8 ((L.getD k 0).toNat : Nat)) := by
  rw [World.ownsRow.cellAt h.1 k (by omega), bcells_get L k hk]
theorem Own8.frozen {w0 wr : World} {g cap : Nat} {L : List UInt8} (h : Own8 w0 wr (.slice (some ⟨g, 0, none⟩) L.length cap) L) (k : Nat) : wr.frozen? ⟨g, k, none⟩ = false := World.ownsRow.frozenAt h.1 k
theorem Own8.set {w0 wr : World} {g cap : Nat} {L : List UInt8} (h : Own8 w0 wr (.slice (some ⟨g, 0, none⟩) L.length cap) L) (k : Nat) (x : UInt8) (hg : w0.heap.size ≤ g) : Own8 w0 (wr.setCell ⟨g, k, none⟩ (.int .u8 (x.toNat : Nat))) (.slice (some ⟨g, 0, none⟩) L.length cap) (L.set k x) := by
  obtain ⟨⟨hl, h1⟩, hB⟩ := h
  rcases h1 with ⟨h2, _⟩ | ⟨g', cap', cur, h2, hg', hh, hc, hm, hs, ht⟩
  · cases h2
  · cases h2
    refine ⟨⟨by simp [Lib.byteCells], .inr ⟨g, cap, cur.setIfInBounds k (.int .u8 (x.toNat : Nat)), by simp, hg', ?_, by simpa using hc, hm, by simpa using hs, ?_⟩⟩, bset hB (by exact hg) _⟩
    · unfold World.setCell
      simp only [Array.getElem?_modify, if_true]
      rw [hh]; rfl
    · rw [Array.toList_setIfInBounds, List.length_set, List.take_set, ht]
      simp [Lib.byteCells, List.map_set]
theorem Own8.str {w0 wr : World} {a : Option Addr} {c : Nat} {L : List UInt8} (h : Own8 w0 wr (.slice a L.length c) L) : (convert 100 9 (.slice a L.length c)).run Tryz.prog wr = .ok (.string ⟨L.toArray⟩) wr := by
  rcases h.ex with ⟨h1, h2⟩ | ⟨g, cap, h1, _⟩
  · subst h2
    cases h1
    exact run_convert_bytes_nil wr 100 5 Tryz.underlying100 Tryz.underlying5 0 0 9 Tryz.underlying9
  · cases h1
    refine run_convert_bytes_back wr 100 9 5 ⟨g, 0, none⟩ c L Tryz.underlying100 Tryz.underlying5 Tryz.underlying9 fun j hj => ?_
    have := h.cell j hj
    unfold Addr.add
    split
    · subst_vars; simpa [hj] using this
    · simpa [hj] using this
namespace Num
def dig (d : Nat) : UInt8 := UInt8.ofNat (48 + d)
theorem dig_nat {d : Nat} (h : d < 10) : (dig d).toNat = 48 + d := by
  unfold dig; rw [UInt8.toNat_ofNat']; omega
theorem asc_eq (l : List Nat) : asc l = (l.map dig).reverse := by unfold asc; rw [← List.map_reverse]; rfl
/-- turned about so far -/
def turned (T : List UInt8) (i : Nat) : List UInt8 := (List.range T.length).map fun j => if j < i ∨ T.length - 1 - j < i then T.getD (T.length - 1 - j) 0 else T.getD j 0
end Num


end Go.Proofs.YtdllbdfchloijaaGreatDoor

/- eval: points: may points be asked? -/
namespace Go.Proofs.YtdllbdfchloijaaGreatDoor
open Pt
open Num
open Go.ChangeShapes Go.WideShapes Go.ChangeAt Go.RowKit
set_option linter.unusedVariables false
set_option linter.unusedSimpArgs false
attribute [local go_sem ↓] Go.wp_at_zero Go.wp_at_succ
/-- points that may be asked -/
def PtsOk (n : Nat) (f : Nat → Int × Int) : Prop := 1 ≤ n ∧ n ≤ 15 ∧ ∀ i, i < n → PIn (f i).1 (f i).2
def ptsB (n : Nat) (f : Nat → Int × Int) : Bool := (decide (1 ≤ n) && decide (n ≤ 15)) && (List.range n).all fun i => inB (f i).1 (f i).2
theorem ptsB_iff (n : Nat) (f : Nat → Int × Int) : ptsB n f = true ↔ PtsOk n f := by
  unfold ptsB PtsOk
  simp only [Bool.and_eq_true, decide_eq_true_eq, List.all_eq_true, List.mem_range, inB_iff, PIn, and_assoc]
theorem ptsB_no {n : Nat} {f : Nat → Int × Int} (h : ¬ PtsOk n f) : ptsB n f = false := by
  rw [Bool.eq_false_iff]; exact fun e => h ((ptsB_iff n f).1 e)
theorem PtsV.atE {w : World} {a : Option Addr} {n cap i : Nat} {f : Nat → Int × Int} (h : PtsV w a n cap f) (hi : i < n) : ∃ b off, a = some ⟨b, off, none⟩ ∧ n ≤ cap ∧ w.cell? ⟨b, off + i * 2, none⟩ = some (.int .i64 (f i).1) ∧ w.cell? ⟨b, off + i * 2 + 1, none⟩ = some (.int .i64 (f i).2) := by
  rcases h with h | ⟨b, off, rfl, h2, h3⟩
  · omega
  · exact ⟨b, off, rfl, h2, (h3 i hi).1, (h3 i hi).2⟩
set_option maxRecDepth 100000 in
set_option maxHeartbeats 4000000 in
theorem evPoints_c (a : Option Addr) (n cap : Nat) (f : Nat → Int × Int) (w : World) (h : PtsV w a n cap f) (hn : n ≤ 4611686018427387904) :
    Calls Tryz.prog 35 #[.slice a n cap] w fun e w' => e = .returned (.bool (ptsB n f)) ∧ Below w.heap.size w w' := by
  have hB := Below.refl w.heap.size w
  have HP := Lib.hid h
  clear h
  go_enter Tryz.func35, Tryz.ntmps35
  go_wp2
  go_loopw [7] (fun x wr => ∃ j : Nat, j ≤ n ∧ x = .int .i64 j ∧ Below w.heap.size w wr ∧ Hid (∀ t, t < j → inB (f t).1 (f t).2 = true)) (fun x _ => n - (intOf x).toNat)
  case atStart => exact ⟨0, Nat.zero_le _, rfl, hB, Lib.hid (fun t ht => by omega)⟩
  case round =>
    obtain ⟨j, hj, rfl, hBr, hE⟩ := hrel
    by_cases hlt : j < n
    · have hltI : (j : Int) < (n : Int) := by omega
      obtain ⟨b, off, e, hcap, c0, c1⟩ := (HP.out.keep hBr).atE hlt
      subst e
      have zb := cell_lt c0
      obtain ⟨q, hq⟩ : ∃ q, f j = q := ⟨_, rfl⟩
      rw [hq] at c0 c1
      obtain ⟨q1, q2⟩ := q
      obtain ⟨v, hv⟩ : ∃ v, inB q1 q2 = v := ⟨_, rfl⟩
      have NC := Lib.hid (fun W => ptIn_v q1 q2 v W hv)
      have HV := Lib.hid (show inB (f j).1 (f j).2 = v by rw [hq]; exact hv)
      have hBw := Below.refl wr.heap.size wr
      have HLT := Lib.hid hlt
      clear hq hv hcap
      go_wp2_with fail
      (with_reducible refine (NC.out _).mono ?_)
      rintro e w5 ⟨rfl, hb5⟩
      have hB5 := bthen hBr (bthen (show Below wr.heap.size wr _ by repeat (first | exact Below.refl _ _ | exact hBw | refine Below.drew ?_ | refine below_drewN ?_ _ | refine bset ?_ (by simp <;> omega) _ | refine bal ?_ _)) hb5)
      cases v with
      | false =>
        have HNO := Lib.hid (show ptsB n f = false from ptsB_no fun k => by
          have h1 := inB_yes (k.2.2 j HLT.out)
          rw [HV.out] at h1; cases h1)
        go_wp2
        go_ret
        exact ⟨ret_bool HNO.out.symm, hB5⟩
      | true =>
        have HE2 := Lib.hid (show ∀ t, t < j + 1 → inB (f t).1 (f t).2 = true from fun t ht => by
          by_cases e : t = j
          · subst e; exact HV.out
          · exact hE.out t (by omega))
        go_wp2
        exact ⟨⟨j + 1, hlt, by go_num, hB5, HE2⟩, measS hlt (by go_num) rfl⟩
    · obtain rfl : j = n := by omega
      have hltI : ¬ (j : Int) < (j : Int) := by omega
      by_cases h1 : 1 ≤ j
      · have h1I : (1 : Int) ≤ (j : Int) := by omega
        by_cases h2 : j ≤ 15
        · have h2I : (j : Int) ≤ 15 := by omega
          have HM := Lib.hid (show ptsB j f = true from (ptsB_iff j f).2 ⟨h1, h2, fun i hi => (inB_iff _ _).1 (hE.out i hi)⟩)
          go_wp2
          go_ret
          exact ⟨ret_bool HM.out.symm, hBr⟩
        · have h2I : ¬ (j : Int) ≤ 15 := by omega
          have HM := Lib.hid (show ptsB j f = false from ptsB_no fun k => h2 k.2.1)
          go_wp2
          go_ret
          exact ⟨ret_bool HM.out.symm, hBr⟩
      · have h1I : ¬ (1 : Int) ≤ (j : Int) := by omega
        have HM := Lib.hid (show ptsB j f = false from ptsB_no fun k => h1 k.1)
        go_wp2
        go_ret
        exact ⟨ret_bool HM.out.symm, hBr⟩
end Go.Proofs.YtdllbdfchloijaaGreatDoor

/- row: each. -/
namespace Go.Proofs.YtdllbdfchloijaaGreatDoor
open Num
open Go.ChangeShapes Go.WideShapes Go.ChangeAt Go.RowKit
set_option linter.unusedVariables false
set_option linter.unusedSimpArgs false

/-- a row of the call's own (from base on), by a function -/
def OwnNB (base : Nat) (w : World) (v : Value) (n : Nat) (f : Nat → Int) : Prop :=
  ∃ xs, w.ownsRow base 50 2 v n xs ∧ ∀ k, k < n → ∃ nb a len c, xs[k * 2]? = some (.bool nb) ∧ xs[k * 2 + 1]? = some (.slice a len c) ∧ IsInt w (.agg #[.bool nb, .slice a len c]) (f k)
section
variable {base : Nat} {w w' : World} {v : Value} {n : Nat} {f : Nat → Int}
theorem OwnNB.nil (base : Nat) (w : World) (f : Nat → Int) : OwnNB base w (.slice none 0 0) 0 f := ⟨[], World.ownsRow_nil _ _ _ _, fun k hk => absurd hk (by omega)⟩
theorem OwnNB.kp {S : TypeId → Prop} (h : OwnNB base w v n f) (k : Kp S w w') (h1 : S 50) (h2 : S 106) : OwnNB base w' v n f := by
  obtain ⟨xs, hO, h⟩ := h
  refine ⟨xs, owns_kp hO k h1, fun j hj => ?_⟩
  obtain ⟨nb, a, len, c, k1, k2, k3⟩ := h j hj
  exact ⟨nb, a, len, c, k1, k2, k3.lim (k.lim h2)⟩
theorem OwnNB.keep (h : OwnNB base w v n f) (k : Below w.heap.size w w') : OwnNB base w' v n f := h.kp (S := fun _ => True) (Kp.of_below _ k) trivial trivial
theorem OwnNB.ex (h : OwnNB base w v n f) : ∃ a c, v = .slice a n c := by
  obtain ⟨xs, ⟨_, h1⟩, _⟩ := h
  rcases h1 with ⟨rfl, rfl⟩ | ⟨g, cap, cur, rfl, _⟩
  · exact ⟨none, 0, rfl⟩
  · exact ⟨_, _, rfl⟩
theorem OwnNB.congr {f' : Nat → Int} (h : OwnNB base w v n f) (he : ∀ k, k < n → f k = f' k) : OwnNB base w v n f' := by
  obtain ⟨xs, h1, h2⟩ := h
  exact ⟨xs, h1, fun k hk => by rw [← he k hk]; exact h2 k hk⟩
theorem OwnNB.rowO {l : List Int} (h : OwnNB base w v n f) (hl : l.length = n) (he : ∀ k, k < n → f k = l.getD k 0) : RowO IsInt 50 base w v l := by
  subst hl
  obtain ⟨xs, h1, h2⟩ := h
  exact ⟨xs, h1, fun k hk => by rw [← he k hk]; exact h2 k hk⟩
end
section
variable {P : Program} {ops : Array Oper} {o : Oper} {a : Act} {Q : Exit → Act → World → Prop} {base : Nat} {wr : World} {v : Value} {n : Nat} {f : Nat → Int} {t : TypeId} {s x : Operand} {nb : Bool} {ad : Option Addr} {len c cc : Nat} {z : Int}
/-- append of one number to such a row -/
theorem app_numB {rest : List Oper} (hgd : o.guard = none)
    (ho : o.op = .call { callee := .builtin .append, args := #[s, x], argTypes := #[43, 43] }) (hO : OwnNB base wr v n f) (hbase : base ≤ wr.heap.size) (hv : IsInt wr (.agg #[.bool nb, .slice ad len c]) z) (hs : a.eval s = v)
    (hx : a.eval x = .slice (some ⟨wr.heap.size, 0, none⟩) 1 cc) (hn : n + 1 ≤ 1099511627776)
    (h : ∀ v' w', OwnNB base w' v' (n + 1) (fun i => if i = n then z else f i) → Kp (· ≠ 50) wr w' → Out (fun k => base ≤ k) wr w' → wpList Tryz.prog ops Q rest (a.put o.dst v') w') : wpList Tryz.prog ops Q (o :: rest) a (wr.alloc (.cells #[.bool nb, .slice ad len c] t)) := by
  obtain ⟨i, z0, hi, hz, hsize, hby, hzs⟩ := elInt.info
  obtain ⟨xs, h1, h2⟩ := hO
  refine wpList_append_own _ hgd s x _ ho base 50 i z0 2 32 elInt.ht hi hz hsize hby hzs elInt.pos v n xs hs (h1.alloc _) ⟨wr.heap.size, 0, none⟩ 1 cc [.bool nb, .slice ad len c] hx rfl (cells_new wr _ t) (fun u hu => by simp at hu; rcases hu with rfl | rfl <;> rfl) (by unfold maxLen; omega) (by omega) (by simp; omega) ?_
  intro v' w' hown hg _
  have hk : Kp (· ≠ 50) wr w' := ((Kp.refl _ wr).alloc _).grown hg fun q hg' t' ht hne => hne (by
    rw [own_typ' (h1.alloc _) hg'] at ht
    exact (Option.some.inj ht).symm)
  have hl : Lim wr w' := hk.lim (by decide)
  refine h v' w' ⟨_, hown, fun k hk' => ?_⟩ hk (((Out.refl _ wr).alloc _).grown hg fun k hk' _ => (h1.lt k hk').1)
  by_cases e : k = n
  · subst e
    refine ⟨nb, ad, len, c, ?_, ?_, ?_⟩
    · rw [List.getElem?_append_right (by rw [h1.1]; omega), h1.1]; simp
    · rw [List.getElem?_append_right (by rw [h1.1]; omega), h1.1]; simp
    · simp only [if_true]; exact hv.lim hl
  · obtain ⟨nb1, a1, len1, c1, k1, k2, k3⟩ := h2 k (by omega)
    refine ⟨nb1, a1, len1, c1, ?_, ?_, ?_⟩
    · rw [List.getElem?_append_left (by rw [h1.1]; omega)]; exact k1
    · rw [List.getElem?_append_left (by rw [h1.1]; omega)]; exact k2
    · show IsInt _ _ (if k = n then z else f k)
      rw [if_neg e]; exact k3.lim hl
end
end Go.Proofs.YtdllbdfchloijaaGreatDoor

/- row: each. -/
namespace Go.Proofs.YtdllbdfchloijaaGreatDoor
open Num
open Go.ChangeShapes Go.WideShapes Go.ChangeAt Go.RowKit
set_option linter.unusedVariables false
set_option linter.unusedSimpArgs false
attribute [local go_sem ↓] Go.wp_at_zero Go.wp_at_succ
/-- what a function value does to the numbers l, one by one: P j holds ahead of the j-th; it writes ints of the blocks X alone -/
def FnE (X : Nat → Prop) (P : Nat → World → Prop) (l : List Int) (f : Nat → Int) (F : Nat) (bnd caps : Array Value) : Prop :=
  ∀ j W u, j < l.length → P j W → IsInt W u (l.getD j 0) → Calls Tryz.prog F (bnd ++ #[u] ++ caps) W fun e w' => (∃ x, e = .returned x ∧ IsInt w' x (f j)) ∧ P (j + 1) w' ∧ Kp (· ≠ 3) W w' ∧ Out X W w'
set_option maxRecDepth 100000 in
set_option maxHeartbeats 8000000 in
theorem each_c (v : Value) (l : List Int) (F : Nat) (bnd caps : Array Value) (f : Nat → Int) (P : Nat → World → Prop) (X : Nat → Prop) (w : World) (hv : PRow 0 w v l) (hl : l.length ≤ 1099511627775) (eF : Enters Tryz.prog F) (hP0 : P 0 w)
    (hPk : ∀ j W W', P j W → Kp (· ≠ 50) W W' → Out (fun k => w.heap.size ≤ k) W W' → P j W') (hX : ∀ b, X b → typOf w b = some 3) (hf : FnE X P l f F bnd caps) :
    Calls Tryz.prog 142 #[v, .func (.func F) bnd caps] w fun e w' => (∃ u, e = .returned u ∧ OwnNB w.heap.size w' u l.length f) ∧ P l.length w' ∧ Out X w w' := by
  have HV := Lib.hid hv
  have HPK := Lib.hid hPk
  have HX := Lib.hid hX
  have HF := Lib.hid hf
  have HP0 := Lib.hid hP0
  obtain ⟨va, vc, rfl, -⟩ := hv
  clear hPk hX hf hP0
  unfold Enters at eF
  have hO0 := Out.refl X w
  go_enter Tryz.func142, Tryz.ntmps142
  go_wp2
  go_loopw [5, 10] (fun v x wr => ∃ j : Nat, j ≤ l.length ∧ x = .int .i64 j ∧ Hid (OwnNB w.heap.size wr v j f) ∧ Hid (P j wr) ∧ Out X w wr) (fun _ x _ => l.length - (intOf x).toNat)
  case atStart => exact ⟨0, Nat.zero_le _, rfl, Lib.hid (OwnNB.nil _ _ _), HP0, hO0⟩
  case round =>
    obtain ⟨j, hj, rfl, hR, hP, hOr⟩ := hrel
    obtain ⟨fa, fc, hfv⟩ := hR.out.ex
    subst hfv
    by_cases hlt : j < l.length
    · have hltI : (j : Int) < (l.length : Int) := by omega
      have hkp : Kp (· ≠ 3) w wr := Kp.out hOr (fun q t hq ht k => by rw [HX.out q hq] at ht; exact k (Option.some.inj ht).symm)
      obtain ⟨a', c', he, -, vr⟩ := (HV.out.kp lims_int hkp (by decide) (by decide)).view
      obtain ⟨rfl, -, rfl⟩ := Value.slice.inj he
      obtain ⟨b, off, nx, ax, lx, cx, rfl, c0, c1, hi⟩ := vr j hlt
      have HI := Lib.hid hi
      have zb := cell_lt c0
      have hsz : w.heap.size ≤ wr.heap.size := hOr.size
      have fcl := fun W (q : Below wr.heap.size wr W) => HF.out j W (.agg #[.bool nx, .slice ax lx cx]) hlt (HPK.out j wr W hP.out (Kp.of_below _ q) (Out.of_below _ q)) (HI.out.keep q)
      have hBw := Below.refl wr.heap.size wr
      clear hi vr he
      have HSN := Lib.hid (show ∀ k, k < j + 1 → (fun i => if i = j then f j else f i) k = f k from fun k hk => by dsimp only; split; (subst_vars; rfl); rfl)
      obtain ⟨z, hz⟩ : ∃ z, f j = z := ⟨_, rfl⟩
      rw [hz] at fcl HSN
      clear hz
      go_wp2_with (first
        | (go_at_fn F; refine (fcl _ ?_).mono ?_; (repeat (first | exact Below.refl _ _ | exact hBw | refine Below.drew ?_ | refine below_drewN ?_ _ | refine bset ?_ (by simp <;> omega) _ | refine bal ?_ _)); rintro e w5 ⟨⟨x5, rfl, hx5⟩, hp5, hk5, ho5⟩; have HX5 := Lib.hid hx5; have HP5 := Lib.hid hp5; have hk5' : Kp (· ≠ 3) wr w5 := (Kp.of_below _ (by repeat (first | exact Below.refl _ _ | exact hBw | refine Below.drew ?_ | refine below_drewN ?_ _ | refine bset ?_ (by simp <;> omega) _ | refine bal ?_ _))).trans hk5; have ho5' : Out X wr w5 := (Out.of_below _ (by repeat (first | exact Below.refl _ _ | exact hBw | refine Below.drew ?_ | refine below_drewN ?_ _ | refine bset ?_ (by simp <;> omega) _ | refine bal ?_ _))).trans ho5; obtain ⟨n5, a5, c5, l5, rfl, -⟩ := hx5; unfold iv at *; have hR5 := Lib.hid (hR.out.kp hk5' (by decide) (by decide)); have hO5 : Out X w w5 := hOr.trans ho5'; have hz5 : w.heap.size ≤ w5.heap.size := hO5.size; clear fcl hp5 hk5 ho5)
        | (at_builtin; refine app_numB (by rfl) (by rfl) hR5.out hz5 HX5.out (by rfl) (by rfl) (by omega) ?_)
        | fail)
      intro v8 w8 hR8 hk8 ho8
      have HR8 := Lib.hid (hR8.congr HSN.out)
      have HP8 := Lib.hid (HPK.out _ _ _ HP5.out hk8 ho8)
      have hO8 : Out X w w8 := hO5.then ho8 (fun i h1 h2 => by omega)
      clear hR8 hk8 ho8
      go_wp2
      exact ⟨⟨j + 1, by omega, by go_num, HR8, HP8, hO8⟩, by simp [intOf]; omega⟩
    · obtain rfl : j = l.length := by omega
      go_wp2
      go_ret
      exact ⟨⟨_, rfl, hR.out⟩, hP.out, hOr⟩
theorem out_none {w w' : World} (h : Out (fun _ => False) w w') : Below w.heap.size w w' := h.to_below (fun _ _ _ h => h) (Nat.le_refl _)
theorem map_getD {l : List Int} (g : Int → Int) {k : Nat} (hk : k < l.length) : (l.map g).getD k 0 = g (l.getD k 0) := by simp [hk]
set_option maxRecDepth 100000 in
set_option maxHeartbeats 2000000 in
theorem rowNeg_c (v : Value) (l : List Int) (w : World) (hv : PRow 0 w v l) (hl : l.length ≤ 1099511627775) :
    Calls Tryz.prog 124 #[v] w fun e w' => (∃ u, e = .returned u ∧ RowO IsInt 50 w.heap.size w' u (l.map fun x => -x)) ∧ Below w.heap.size w w' := by
  have ec := fun W (h : Below w.heap.size w W) => each_c v l 101 #[] #[] (fun j => -(l.getD j 0)) (fun _ _ => True) (fun _ => False) W (hv.keep lims_int h) hl (ens Tryz.func101 (by kernel_rfl) rfl) trivial (fun _ _ _ _ _ _ => trivial) (fun _ h => h.elim) (fun j W u hj _ hu => (neg_c u _ W hu).mono fun e w' ⟨h1, h2⟩ => ⟨h1, trivial, Kp.of_below _ h2, Out.of_below _ h2⟩)
  obtain ⟨va, vc, rfl, -⟩ := hv
  have hB := Below.refl w.heap.size w
  go_enter Tryz.func124, Tryz.ntmps124
  go_wp2_with fail
  refine (ec _ (by repeat (first | exact Below.refl _ _ | exact hB | refine Below.drew ?_ | refine below_drewN ?_ _ | refine bset ?_ (by simp <;> omega) _ | refine bal ?_ _))).mono ?_
  rintro e w1 ⟨⟨u, rfl, hu⟩, -, hO⟩
  have HU := Lib.hid (show RowO IsInt 50 w.heap.size w1 u (l.map fun x => -x) from hu.rowO (by simp) (fun k hk => by rw [map_getD _ hk]))
  have hB1 := out_none hO
  obtain ⟨ua, uc, rfl⟩ := hu.ex
  clear ec hu hO
  go_wp2
  go_ret
  exact ⟨⟨_, rfl, HU.out⟩, hB1⟩
end Go.Proofs.YtdllbdfchloijaaGreatDoor

