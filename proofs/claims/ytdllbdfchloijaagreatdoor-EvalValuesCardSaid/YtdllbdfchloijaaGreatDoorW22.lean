/- Texts of this seat, laid together: ExJ, ExN, ExO, RwG, MxA, MxB, MxC, MxD, MxE, EvI, MxF, MxG. Each opens with its own remark, which says what it proves, and under which conditions. -/
import Derived.Test.YtdllbdfchloijaaGreatDoorW21
import Derived.Test.YtdllbdfchloijaaGreatDoorW13
import Derived.Test.YtdllbdfchloijaaGreatDoorW17
import Derived.Shelf.RegionOpen
import Derived.Deep.RegionLaw
import Derived.Test.YtdllbdfchloijaaGreatDoorW19
import Derived.Test.YtdllbdfchloijaaGreatDoorW15
import Derived.StillTailTactics
import Derived.Test.YtdllbdfchloijaaGreatDoorW02
import Derived.Test.YtdllbdfchloijaaGreatDoorW10
set_option linter.unusedVariables false
set_option linter.unusedSimpArgs false
/- exact: Rows, Judge. -/
namespace Go.Proofs.YtdllbdfchloijaaGreatDoor
open Num
open Go.ChangeShapes Go.WideShapes Go.ChangeAt Go.RowKit
set_option linter.unusedVariables false
set_option linter.unusedSimpArgs false
attribute [local go_sem ↓] Go.wp_at_zero Go.wp_at_succ
/-- run's answer, an int -/
theorem runRRes {code : List Ins} {g : Grid} {rb : Nat} {w : World} {e : Ending} {w' : World} (h : RunRPost code g rb w e w') : (∃ q : Int, e = .returned (.int .i64 q) ∧ ((∃ (m : Nat) (s : Grid), m < code.length ∧ after code g m = some s ∧ after code g (m + 1) = none ∧ q = m) ∨ (∃ s, after code g code.length = some s ∧ q = -1 ∧ RegsP 0 w' rb s))) ∧ Out (fun k => k = rb) w w' := by
  obtain ⟨h, hO⟩ := h
  refine ⟨?_, hO⟩
  rcases h with ⟨m, s, h1, h2, h3, rfl⟩ | ⟨s, h1, rfl, h2⟩
  · exact ⟨_, rfl, .inl ⟨m, s, h1, h2, h3, rfl⟩⟩
  · exact ⟨_, rfl, .inr ⟨s, h1, rfl, h2⟩⟩
/-- a row of the call's own, in a block from lo on; behind which block the next may lie -/
def RowLH (w : World) (v : Value) (x : List Int × Nat × Nat) : Prop := RowO IsInt 50 x.2.1 w v x.1 ∧ x.2.2 = (rowBlk v).elim 0 (· + 1)
theorem prs_rowLH : Prs (fun t => t = 106 ∨ t = 50) RowLH :=
  ⟨fun h => (prs_rowO lims_int _ _).one h.1, fun h k => ⟨(prs_rowO lims_int _ _).kp h.1 k, h.2⟩⟩
/-- rows in blocks that lie one behind the other -/
def AscLH (gs : List (List Int × Nat × Nat)) : Prop := ∀ i j (hi : i < gs.length) (hj : j < gs.length), i < j → gs[i].2.2 ≤ gs[j].2.1
theorem RowLH.hi {w : World} {v : Value} {x : List Int × Nat × Nat} (h : RowLH w v x) : x.2.2 ≤ w.heap.size := by
  rw [h.2]
  cases e : rowBlk v with
  | none => exact Nat.zero_le _
  | some b => exact typ_lt (rowO_blk h.1 e).2
theorem OwnL.mapd {α β : Type} {T : TypeId} {Pr : World → Value → α → Prop} {Pr' : World → Value → β → Prop} {w0 wr : World} {v : Value} {g : List α} (f : α → β) (h : OwnL T Pr w0 wr v g) (hf : ∀ u x, x ∈ g → Pr wr u x → Pr' wr u (f x)) : OwnL T Pr' w0 wr v (g.map f) := by
  obtain ⟨xs, h1, h2⟩ := h
  refine ⟨xs, by rw [List.length_map]; exact h1, fun k hk => ?_⟩
  rw [List.length_map] at hk
  obtain ⟨u, hu, hp⟩ := h2 k hk
  exact ⟨u, hu, by rw [List.getElem_map]; exact hf _ _ (List.getElem_mem hk) hp⟩
theorem ascLH_snoc {gs : List (List Int × Nat × Nat)} {x : List Int × Nat × Nat} (h : AscLH gs) (hx : ∀ i (hi : i < gs.length), gs[i].2.2 ≤ x.2.1) : AscLH (gs ++ [x]) := by
  intro i j hi hj hij
  simp at hi hj
  have hi' : i < gs.length := by omega
  rw [List.getElem_append_left hi']
  by_cases e : j < gs.length
  · rw [List.getElem_append_left e]; exact h i j hi' e hij
  · rw [List.getElem_append_right (by omega)]
    have : j - gs.length = 0 := by omega
    simp [this]; exact hx i hi'
/-- what Rows answers -/
def ExRowsPost (ins regs : Int) (code : List Ins) (outs : List Int) (g : Grid) (w : World) (e : Ending) (w' : World) : Prop :=
  ((¬ ProgOk ins regs code outs ∧ e = .returned (.tuple #[.slice none 0 0, .int .i64 0, .int .i64 80])) ∨
   (ProgOk ins regs code outs ∧ ¬ FitsG ins g ∧ e = .returned (.tuple #[.slice none 0 0, .int .i64 0, .int .i64 5])) ∨
   (ProgOk ins regs code outs ∧ FitsG ins g ∧ ∃ (k : Nat) (h : Grid), k < code.length ∧ after code (startG g regs.toNat (g.getD 0 []).length) k = some h ∧ after code (startG g regs.toNat (g.getD 0 []).length) (k + 1) = none ∧ e = .returned (.tuple #[.slice none 0 0, .int .i64 k, .int .i64 20])) ∨
   (ProgOk ins regs code outs ∧ FitsG ins g ∧ ∃ (h : Grid) (v : Value), after code (startG g regs.toNat (g.getD 0 []).length) code.length = some h ∧ e = .returned (.tuple #[v, .int .i64 0, .int .i64 0]) ∧ OwnL 43 (RowO IsInt 50 w.heap.size) w w' v (outsG outs h))) ∧ Below w.heap.size w w'
/-- the same; its rows lie one behind the other -/
def ExRowsPostX (ins regs : Int) (code : List Ins) (outs : List Int) (g : Grid) (w : World) (e : Ending) (w' : World) : Prop :=
  ((¬ ProgOk ins regs code outs ∧ e = .returned (.tuple #[.slice none 0 0, .int .i64 0, .int .i64 80])) ∨
   (ProgOk ins regs code outs ∧ ¬ FitsG ins g ∧ e = .returned (.tuple #[.slice none 0 0, .int .i64 0, .int .i64 5])) ∨
   (ProgOk ins regs code outs ∧ FitsG ins g ∧ ∃ (k : Nat) (h : Grid), k < code.length ∧ after code (startG g regs.toNat (g.getD 0 []).length) k = some h ∧ after code (startG g regs.toNat (g.getD 0 []).length) (k + 1) = none ∧ e = .returned (.tuple #[.slice none 0 0, .int .i64 k, .int .i64 20])) ∨
   (ProgOk ins regs code outs ∧ FitsG ins g ∧ ∃ (h : Grid) (v : Value) (gs : List (List Int × Nat × Nat)), after code (startG g regs.toNat (g.getD 0 []).length) code.length = some h ∧ e = .returned (.tuple #[v, .int .i64 0, .int .i64 0]) ∧ gs.map (·.1) = outsG outs h ∧ AscLH gs ∧ (∀ x ∈ gs, w.heap.size ≤ x.2.1) ∧ OwnL 43 RowLH w w' v gs)) ∧ Below w.heap.size w w'
theorem ExRowsPostX.plain {ins regs : Int} {code : List Ins} {outs : List Int} {g : Grid} {w : World} {e : Ending} {w' : World} (h : ExRowsPostX ins regs code outs g w e w') : ExRowsPost ins regs code outs g w e w' := by
  obtain ⟨h, hB⟩ := h
  refine ⟨?_, hB⟩
  rcases h with h | h | h | ⟨h1, h2, h, v, gs, h3, h4, h5, h6, h7, h8⟩
  · exact .inl h
  · exact .inr (.inl h)
  · exact .inr (.inr (.inl h))
  · refine .inr (.inr (.inr ⟨h1, h2, h, v, h3, h4, ?_⟩))
    rw [← h5]
    exact h8.mapd _ fun u x hx hr => hr.1.rebase (h7 x hx)
set_option maxRecDepth 100000 in
set_option maxHeartbeats 16000000 in
theorem exRowsX_c (ins regs : Int) (ca oa : Option Addr) (cc oc : Nat) (code : List Ins) (outs : List Int) (vg : Value) (g : Grid) (K : Nat) (w : World) (hc : InsV w ca cc code) (ho : IntsV w oa oc outs) (hg : GridV w vg g) (hm0 : (g.getD 0 []).length ≤ 1099511627776) (hb : BdG K g) (hK : K ≤ 2147483648) :
    Calls Tryz.prog 45 #[.agg #[.int .i64 ins, .int .i64 regs, .slice ca code.length cc, .slice oa outs.length oc], vg] w (ExRowsPostX ins regs code outs g w) := by
  have kl := fun W (h : Below w.heap.size w W) => laid_c ins regs ca oa cc oc code outs vg g W (hc.keep h) (ho.keep h) (hg.keep (prs_row lims_int _ _) h) hm0
  have HC := Lib.hid (And.intro hc ho)
  have HBD := Lib.hid hb
  obtain ⟨ga, gc, rfl, hgc, -⟩ := hg.view
  clear hc ho hg hb
  have hB := Below.refl w.heap.size w
  go_enter Tryz.func45, Tryz.ntmps45
  go_wp2_with fail
  refine (kl _ (by repeat (first | exact Below.refl _ _ | exact hB | refine Below.drew ?_ | refine below_drewN ?_ _ | refine bset ?_ (by simp <;> omega) _ | refine bal ?_ _))).mono ?_
  rintro e w1 ⟨hp, hb1⟩
  have p0 : w1.cell? ⟨w.heap.size, 0, none⟩ = some (.int .i64 ins) := bkc hb1
  have zp0 := cell_lt p0
  have p1 : w1.cell? ⟨w.heap.size, 1, none⟩ = some (.int .i64 regs) := bkc hb1
  have p2 : w1.cell? ⟨w.heap.size, 2, none⟩ = some (.slice ca code.length cc) := bkc hb1
  have p3 : w1.cell? ⟨w.heap.size, 3, none⟩ = some (.slice oa outs.length oc) := bkc hb1
  have hB : Below w.heap.size w w1 := bthen (by repeat (first | exact Below.refl _ _ | exact hB | refine Below.drew ?_ | refine below_drewN ?_ _ | refine bset ?_ (by simp <;> omega) _ | refine bal ?_ _)) hb1
  have hz : w.heap.size ≤ w1.heap.size := hB.size
  clear kl
  rcases hp with ⟨hno, rfl⟩ | ⟨hok, hnf, rfl⟩ | ⟨hok, hfi, rb, hrb, rfl, hR⟩
  · have HNO := Lib.hid hno
    clear hno
    go_wp2
    go_ret3
    exact ⟨.inl ⟨HNO.out, rfl⟩, hB⟩
  · have HNO := Lib.hid (And.intro hok hnf)
    clear hok hnf
    go_wp2
    go_ret3
    exact ⟨.inr (.inl ⟨HNO.out.1, HNO.out.2, rfl⟩), hB⟩
  · have HOK := Lib.hid hok
    have HFI := Lib.hid hfi
    obtain ⟨R, hRE⟩ : ∃ R : Nat, regs = R := ⟨regs.toNat, by have := hok.i1; have := hok.i2; omega⟩
    have hgR : g.length ≤ R := by have := hok.i2; have := hfi.len; omega
    have hR128 : R ≤ 128 := by have := hok.r1; omega
    clear hok
    subst hRE
    rw [Int.toNat_natCast] at hR ⊢
    obtain ⟨m, hm⟩ : ∃ m, (g.getD 0 []).length = m := ⟨_, rfl⟩
    have hrect := hfi.rect
    rw [hm] at hR hm0 hrect
    have HM := Lib.hid hm
    have HRE := Lib.hid hrect
    have HRG := Lib.hid (hR.rebase (Nat.zero_le _))
    clear hm hfi hR hrect
    have HSL := Lib.hid (startG_len (n := m) hgR)
    have HSR := Lib.hid (startG_rect (regs := R) HRE.out)
    have HSB := Lib.hid (startG_bd (regs := R) (n := m) HBD.out)
    have hzz : rb < w1.heap.size := HRG.out.free.1
    have hrb' : w.heap.size + 1 ≤ rb := by simpa using hrb
    have hne : ¬ w.heap.size = rb := by omega
    have HP := Lib.hid (show ∀ W, Out (fun k => k = rb) w1 W → W.cell? ⟨w.heap.size, 0, none⟩ = some (.int .i64 ins) ∧ W.cell? ⟨w.heap.size, 1, none⟩ = some (.int .i64 (R : Int)) ∧ W.cell? ⟨w.heap.size, 2, none⟩ = some (.slice ca code.length cc) ∧ W.cell? ⟨w.heap.size, 3, none⟩ = some (.slice oa outs.length oc) from fun W h => ⟨okeep h p0 hne, okeep h p1 hne, okeep h p2 hne, okeep h p3 hne⟩)
    have HB1 := Lib.hid hB
    have rx := fun W (k : Below w1.heap.size w1 W) => runR_c ins (R : Int) ca oa cc outs.length oc code (startG g R m) m K rb 82 #[] W (HC.out.1.keep (HB1.out.trans (k.mono HB1.out.size))) (fun n hn => by rw [HSL.out]; exact ins_of HOK.out hn) HOK.out.c1 (cs_of HOK.out) (by rw [HSL.out]; exact hR128) (HRG.out.keep k) HSR.out (by have := HFI.out.m; rw [HM.out] at this; omega) HSB.out hK toldR_c (ens Tryz.func82 (by kernel_rfl) rfl) (fun b off e hl e2 => by
      rcases HC.out.1 with h0 | ⟨b', off', h1, _, h3⟩
      · rw [h0] at hl; simp at hl
      · rw [e] at h1; cases h1
        have := cell_lt (h3 0 hl).c0
        omega)
    rw [HSL.out] at rx
    have hO1 := Out.refl (fun k => k = rb) w1
    have hBc := Below.refl w1.heap.size w1
    clear p0 p1 p2 p3 hB hrb
    obtain ⟨p0, p1, p2, p3⟩ := HP.out w1 hO1
    go_wp2
    go_region_held3 (fun w' => w'.cell? ⟨w.heap.size, 0, none⟩ = some (.int .i64 ins) ∧ w'.cell? ⟨w.heap.size, 1, none⟩ = some (.int .i64 (R : Int)) ∧ w'.cell? ⟨w.heap.size, 2, none⟩ = some (.slice ca code.length cc) ∧ w'.cell? ⟨w.heap.size, 3, none⟩ = some (.slice oa outs.length oc))
      (first | (refine HP.out _ ?_; refine hO1.below ?_; (repeat (first | exact Below.refl _ _ | exact hBc | refine Below.drew ?_ | refine below_drewN ?_ _ | refine bset ?_ (by simp <;> omega) _ | refine bal ?_ _)); done) | (refine HP.out _ ?_; (repeat (first | exact hO4 | refine Out.drew ?_ | refine Out.drewN ?_ _)); done) | fail)
      (first
        | (go_at_call 81; refine (rowsV_c _).mono ?_; rintro e w3 ⟨rfl, hb3⟩; (have hBd : Below w1.heap.size w1 w3 := bthen (by repeat (first | exact Below.refl _ _ | exact hBc | refine Below.drew ?_ | refine below_drewN ?_ _ | refine bset ?_ (by simp <;> omega) _ | refine bal ?_ _)) hb3; clear hBc; have hBc := hBd; clear hBd))
        | (go_at_call 80; refine (rx _ ?_).mono ?_; (repeat (first | exact Below.refl _ _ | exact hBc | refine Below.drew ?_ | refine below_drewN ?_ _ | refine bset ?_ (by simp <;> omega) _ | refine bal ?_ _)); rintro e w4 hr4; obtain ⟨⟨q, rfl, hres⟩, hO4'⟩ := runRRes hr4; have hO4 : Out (fun k => k = rb) w1 w4 := (Out.of_below _ (by repeat (first | exact Below.refl _ _ | exact hBc | refine Below.drew ?_ | refine below_drewN ?_ _ | refine bset ?_ (by simp <;> omega) _ | refine bal ?_ _))).trans hO4'; have HRES := Lib.hid hres; clear hres hr4 hO4')
        | fail)
    all_goals
      have hB4 : Below w.heap.size w w4 := HB1.out.trans (hO4.to_below (fun q hq _ e => by omega) HB1.out.size)
      clear rx hBc p0 p1 p2 p3
      rcases HRES.out with ⟨q1, s, h1, h2, h3, rfl⟩ | ⟨s, h1, rfl, h2⟩
      · have HH := Lib.hid (And.intro h2 h3)
        clear h2 h3
        go_wp2
        go_ret3
        exact ⟨.inr (.inr (.inl ⟨HOK.out, HFI.out, q1, s, h1, by rw [Int.toNat_natCast, HM.out]; exact HH.out.1, by rw [Int.toNat_natCast, HM.out]; exact HH.out.2, rfl⟩)), by repeat (first | exact Below.refl _ _ | exact hB4 | refine Below.drew ?_ | refine below_drewN ?_ _ | refine bset ?_ (by simp <;> omega) _ | refine bal ?_ _)⟩
      · have HH := Lib.hid (And.intro h1 h2)
        have hsl := (after_len h1).trans HSL.out
        have HA := Lib.hid (after_rect HSR.out HSL.out (fun n hn => by have := (ins_of HOK.out hn).a1; have := (ins_of HOK.out hn).a0; rw [Int.toNat_natCast] at *; omega) (Nat.le_refl _) h1)
        clear h1 h2
        obtain ⟨p0, p1, p2, p3⟩ := HP.out w4 hO4
        have HL := Lib.hid hsl
        clear hsl
        have hBw := Below.refl w4.heap.size w4
        go_wp2
        refine wp_name fun w5 hW5 => ?_
        have hb45 : Below w4.heap.size w4 w5 := by rw [hW5]; repeat (first | exact Below.refl _ _ | exact hBw | refine Below.drew ?_ | refine below_drewN ?_ _ | refine bset ?_ (by simp <;> omega) _ | refine bal ?_ _)
        clear hW5 p0 p1 p2 p3
        obtain ⟨p0, p1, p2, p3⟩ := HP.out w5 (hO4.below hb45)
        have hB5 := bthen hB4 hb45
        have HR5 := Lib.hid (HH.out.2.keep hb45)
        go_loopw [10, 32] (fun v x wr => ∃ k : Nat, k ≤ outs.length ∧ x = .int .i64 k ∧ Hid (∃ gs, gs.map (·.1) = outsG (outs.take k) s ∧ AscLH gs ∧ (∀ x ∈ gs, w5.heap.size ≤ x.2.1) ∧ OwnL 43 RowLH w5 wr v gs)) (fun _ x _ => outs.length - (intOf x).toNat)
        case atStart => exact ⟨0, Nat.zero_le _, rfl, Lib.hid ⟨[], rfl, fun i j hi => absurd hi (by simp), fun x hx => absurd hx (by simp), OwnL.nil _ _ (Below.refl _ _)⟩⟩
        case round =>
          obtain ⟨k, hk, rfl, hO⟩ := hrel
          obtain ⟨gs, hgs, hasc, hlo, hOw⟩ := hO.out
          have HGS := Lib.hid (And.intro hgs (And.intro hasc hlo))
          have HOW := Lib.hid hOw
          have hbr := hOw.bel
          have hBr := bthen hB5 hbr
          have hol := HOK.out.o2
          have hlen : gs.length = k := by have := congrArg List.length hgs; simp [outsG] at this; omega
          obtain ⟨va, vc, hv⟩ := hOw.ex
          rw [hlen] at hv
          subst hv
          have HLEN := Lib.hid hlen
          clear hlen hgs hasc hlo hOw
          by_cases hlt : k < outs.length
          · have hltI : (k : Int) < (outs.length : Int) := by omega
            obtain ⟨q1, q2⟩ := HOK.out.os k hlt
            rcases HC.out.2 with h0 | ⟨ob, off, rfl, hcap, hcell⟩
            · rw [h0] at hlt; simp at hlt
            have hc := bkeep hBr (hcell k hlt)
            have zob := cell_lt hc
            obtain ⟨r, hr⟩ : ∃ r : Nat, outs.getD k 0 = r := ⟨(outs.getD k 0).toNat, by omega⟩
            rw [hr] at hc q1 q2
            have hrl : r < R := by omega
            have hrl2 : r < s.length := by rw [HL.out]; exact hrl
            obtain ⟨u, hu, hrow⟩ := HR5.out.cell r hrl2
            have hu2 := bkeep hbr hu
            have zu := cell_lt hu2
            have hlr := HA.out r hrl2
            have kcl := fun W (h : Below wr.heap.size wr W) => cloneRow_c 0 u (s.getD r []) W ((hrow.keep lims_int hbr).keep lims_int h) (by rw [hlr]; omega)
            have HN := Lib.hid (show outsG (outs.take (k + 1)) s = outsG (outs.take k) s ++ [s.getD r []] by
              rw [List.take_succ_eq_append_getElem hlt]
              have e : outs[k] = r := by rw [← hr]; simp [hlt]
              unfold outsG; rw [List.map_append, List.map_singleton, e, Int.toNat_natCast])
            obtain ⟨L, hL⟩ : ∃ L, s.getD r [] = L := ⟨_, rfl⟩
            rw [hL] at hrow kcl HN hlr
            have HLR := Lib.hid hlr
            obtain ⟨ua, uc, rfl, -⟩ := hrow
            rw [HLR.out] at hu2 kcl
            clear hr hcell hu hL hlr
            go_wp2_with fail
            refine (kcl _ (Below.refl _ _)).mono ?_
            rintro e w6 ⟨⟨v6, rfl, hr6⟩, hb6⟩
            have HO6 := Lib.hid (HOW.out.below prs_rowLH hb6)
            obtain ⟨a6, c6, hv6⟩ := hr6.ex
            rw [HLR.out] at hv6
            subst hv6
            have HR6 := Lib.hid hr6
            clear hr6 kcl
            go_wp2_with (at_builtin; refine appL (y := (L, wr.heap.size, (rowBlk (.slice a6 m c6)).elim 0 (· + 1))) elRow prs_rowLH (by decide) (by rfl) (by rfl) (HO6.out.below prs_rowLH (bal (Below.refl _ _) _)) ⟨HR6.out.keep lims_int (bal (Below.refl _ _) _), rfl⟩ (by rfl) (by rfl) (cell_new rfl rfl) (by rw [HLEN.out]; omega) (by rw [HLEN.out]; unfold maxLen; omega) ?_)
            intro v' w8 hO8 hk8
            have HO8 := Lib.hid (show ∃ gs, gs.map (·.1) = outsG (outs.take (k + 1)) s ∧ AscLH gs ∧ (∀ x ∈ gs, w5.heap.size ≤ x.2.1) ∧ OwnL 43 RowLH w5 w8 v' gs from ⟨_, by rw [List.map_append, HGS.out.1, HN.out]; rfl, ascLH_snoc HGS.out.2.1 (fun i hi => by obtain ⟨_, _, e, _, vr⟩ := HOW.out.isL.view; obtain ⟨_, _, u, _, _, hp⟩ := vr i hi; exact hp.hi), fun x hx => by
              rcases List.mem_append.1 hx with h | h
              · exact HGS.out.2.2 x h
              · simp at h; subst h; exact hbr.size, hO8⟩)
            clear hO8 hk8
            go_wp2
            exact ⟨⟨k + 1, by omega, by go_num, HO8⟩, by simp [intOf]; omega⟩
          · obtain rfl : k = outs.length := by omega
            rw [List.take_length] at HGS
            have HFIN := Lib.hid (show OwnL 43 RowLH w wr (.slice va outs.length vc) gs from HOW.out.rebase hB5)
            go_wp2
            go_ret3
            exact ⟨.inr (.inr (.inr ⟨HOK.out, HFI.out, s, _, gs, by rw [Int.toNat_natCast, HM.out]; exact HH.out.1, rfl, HGS.out.1, HGS.out.2.1, fun x hx => Nat.le_trans hB5.size (HGS.out.2.2 x hx), HFIN.out⟩)), hBr⟩
theorem exRows_c (ins regs : Int) (ca oa : Option Addr) (cc oc : Nat) (code : List Ins) (outs : List Int) (vg : Value) (g : Grid) (K : Nat) (w : World) (hc : InsV w ca cc code) (ho : IntsV w oa oc outs) (hg : GridV w vg g) (hm0 : (g.getD 0 []).length ≤ 1099511627776) (hb : BdG K g) (hK : K ≤ 2147483648) :
    Calls Tryz.prog 45 #[.agg #[.int .i64 ins, .int .i64 regs, .slice ca code.length cc, .slice oa outs.length oc], vg] w (ExRowsPost ins regs code outs g w) :=
  (exRowsX_c ins regs ca oa cc oc code outs vg g K w hc ho hg hm0 hb hK).mono fun _ _ h => h.plain
end Go.Proofs.YtdllbdfchloijaaGreatDoor

/- exact: Steps: what its iterator tells. -/
namespace Go.Proofs.YtdllbdfchloijaaGreatDoor
open Num
open Go.ChangeShapes Go.WideShapes Go.ChangeAt Go.RowKit
set_option linter.unusedVariables false
set_option linter.unusedSimpArgs false
attribute [local go_sem ↓] Go.wp_at_zero Go.wp_at_succ
/-- what is told: the k-th row, in memory of its own -/
def AR (n0 : Nat) (T : Nat → List Int) (k : Nat) (args : Array Value) (X : World) : Prop := ∃ v base, args = #[.int .i64 (k : Int), v] ∧ n0 ≤ base ∧ RowO IsInt 50 base X v (T k)
/-- the block of what is told -/
def XsR (args : Array Value) (q : Nat) : Prop := ∃ v, args[1]? = some v ∧ rowBlk v = some q
theorem AR.cells {n0 : Nat} {T : Nat → List Int} {k q : Nat} {args : Array Value} {X : World} (h : AR n0 T k args X) (hq : XsR args q) : ∃ o, X.heap[q]? = some o ∧ o.isCells = true := by
  obtain ⟨v, base, rfl, _, hr⟩ := h
  obtain ⟨v', e, hb⟩ := hq
  simp at e
  subst e
  exact typ_cells (rowO_blk hr hb).2
theorem OutT.base {S X : Nat → Prop} {a b c : World} (k : Below a.heap.size a b) (h : OutT (fun q => S q ∨ X q) b c) (hx : ∀ q, X q → a.heap.size ≤ q) (hS : ∀ q, S q → q < a.heap.size) : OutT S a c := by
  refine ⟨⟨h.1.os.trans k.os, h.1.tape.trans k.tape, h.1.output.trans k.output, Nat.le_trans k.size h.1.size, fun q hq hs => (h.1.block q (Nat.lt_of_lt_of_le hq k.size) fun e => ?_).trans (k.block q hq)⟩, fun q hq hl => ?_⟩
  · rcases e with e | e
    · exact hs e
    · have := hx q e; omega
  · rw [h.2 q (.inl hq) (Nat.lt_of_lt_of_le hl k.size)]
    unfold typOf; rw [k.block q hl]
/-- what the iterator finds -/
structure StepsIn (n0 : Nat) (S0 : Nat → Prop) (pb xb : Nat) (ins regs : Int) (ca oa : Option Addr) (cc oc : Nat) (code : List Ins) (outs : List Int) (v : Value) (g : Grid) (W : World) : Prop where
  p0 : W.cell? ⟨pb, 0, none⟩ = some (.int .i64 ins)
  p1 : W.cell? ⟨pb, 1, none⟩ = some (.int .i64 regs)
  p2 : W.cell? ⟨pb, 2, none⟩ = some (.slice ca code.length cc)
  p3 : W.cell? ⟨pb, 3, none⟩ = some (.slice oa outs.length oc)
  x0 : W.cell? ⟨xb, 0, none⟩ = some v
  hc : InsV W ca cc code
  ho : IntsV W oa oc outs
  hv : GridV W v g
  hm : (g.getD 0 []).length ≤ 1099511627775
  lt : ∀ q, S0 q → q < n0
  le : n0 ≤ W.heap.size
  nc : ∀ b off, ca = some ⟨b, off, none⟩ → 0 < code.length → ¬ S0 b
section
variable {n0 : Nat} {S0 : Nat → Prop} {pb xb : Nat} {ins regs : Int} {ca oa : Option Addr} {cc oc : Nat} {code : List Ins} {outs : List Int} {v : Value} {g : Grid} {W W' : World}
theorem StepsIn.keep (h : StepsIn n0 S0 pb xb ins regs ca oa cc oc code outs v g W) (k : Below W.heap.size W W') : StepsIn n0 S0 pb xb ins regs ca oa cc oc code outs v g W' :=
  ⟨bkeep k h.p0, bkeep k h.p1, bkeep k h.p2, bkeep k h.p3, bkeep k h.x0, h.hc.keep k, h.ho.keep k, h.hv.keep (prs_row lims_int _ _) k, h.hm, h.lt, Nat.le_trans h.le k.size, h.nc⟩
end
end Go.Proofs.YtdllbdfchloijaaGreatDoor

/- exact: Widest. -/
namespace Go.Proofs.YtdllbdfchloijaaGreatDoor
open Num
open Go.ChangeShapes Go.WideShapes Go.ChangeAt Go.RowKit
set_option linter.unusedVariables false
set_option linter.unusedSimpArgs false
attribute [local go_sem ↓] Go.wp_at_zero Go.wp_at_succ
attribute [local go_sem] Oper.semAt_some
/-- a variable in memory that holds a number -/
def VarI (ub : Nat) (m : Int) (W : World) : Prop := typOf W ub = some 50 ∧ ∃ n a ln c, W.cell? ⟨ub, 0, none⟩ = some (.bool n) ∧ W.cell? ⟨ub, 1, none⟩ = some (.slice a ln c) ∧ W.frozen? ⟨ub, 0, none⟩ = false ∧ W.frozen? ⟨ub, 1, none⟩ = false ∧ IsInt W (.agg #[.bool n, .slice a ln c]) m
theorem VarI.keep {ub : Nat} {m : Int} {W V : World} (h : VarI ub m W) (k : Below W.heap.size W V) : VarI ub m V := by
  obtain ⟨ht, n, a, ln, c, h0, h1, f0, f1, hi⟩ := h
  exact ⟨typ_keep ht k, n, a, ln, c, bkeep k h0, bkeep k h1, bkeepf k h0 f0, bkeepf k h1 f1, hi.keep k⟩
theorem VarI.put {ub : Nat} {m z : Int} {W : World} {n : Bool} {a : Option Addr} {ln c : Nat} (h : VarI ub m W) (hi : IsInt W (.agg #[.bool n, .slice a ln c]) z) : VarI ub z ((W.setCell ⟨ub, 0, none⟩ (.bool n)).setCell ⟨ub, 1, none⟩ (.slice a ln c)) := by
  obtain ⟨ht, n', a', ln', c', h0, h1, f0, f1, _⟩ := h
  refine ⟨by rw [typ_set, typ_set]; exact ht, n, a, ln, c, cell_far (cell_here h0 _) (by simp) _, cell_here (cell_far h1 (by simp) _) _, ?_, ?_, hi.put2 h0 h1 _ _⟩
  · rw [World.frozen?_setCell, World.frozen?_setCell]; exact f0
  · rw [World.frozen?_setCell, World.frozen?_setCell]; exact f1
end Go.Proofs.YtdllbdfchloijaaGreatDoor

/- integer: Sum; row: Dot. -/
namespace Go.Proofs.YtdllbdfchloijaaGreatDoor
open Num
open Go.ChangeShapes Go.WideShapes Go.ChangeAt Go.RowKit
set_option linter.unusedVariables false
set_option linter.unusedSimpArgs false
attribute [local go_sem ↓] Go.wp_at_zero Go.wp_at_succ
end Go.Proofs.YtdllbdfchloijaaGreatDoor

/- matrix: matrices as values; filled. -/
namespace Go.Proofs.YtdllbdfchloijaaGreatDoor
open Num
open Go.ChangeShapes Go.WideShapes Go.ChangeAt Go.RowKit
set_option linter.unusedVariables false
set_option linter.unusedSimpArgs false
attribute [local go_sem ↓] Go.wp_at_zero Go.wp_at_succ
/-- a matrix as a value: its rows lie in blocks from base on -/
def IsM (base : Nat) (w : World) (v : Value) (g : Grid) : Prop := ∃ a c, v = .agg #[.slice a g.length c] ∧ IsL 43 (PRow base) base w (.slice a g.length c) g
theorem prs_prow (base : Nat) : Prs (fun t => t = 106 ∨ t = 50) (PRow base) := prs_row lims_int _ _
theorem IsM.keep {base : Nat} {w w' : World} {v : Value} {g : Grid} (h : IsM base w v g) (k : Below w.heap.size w w') : IsM base w' v g := by
  obtain ⟨a, c, e, h⟩ := h; exact ⟨a, c, e, h.keep (prs_prow base) k⟩
theorem IsM.rebase {base base' : Nat} {w : World} {v : Value} {g : Grid} (h : IsM base w v g) (hb : base' ≤ base) : IsM base' w v g := by
  obtain ⟨a, c, e, h⟩ := h; exact ⟨a, c, e, (h.rebase hb).mono fun u x hx => hx.rebase hb⟩
theorem IsM.nil (base : Nat) (w : World) : IsM base w (.agg #[.slice none 0 0]) [] := ⟨none, 0, rfl, IsL.nil _ _ _ _⟩
/-- a function value that tells the number at a place -/
def FnF (f : Nat → Nat → Int) (n m F : Nat) (caps : Array Value) (w : World) : Prop :=
  ∀ W i j, i < n → j < m → Below w.heap.size w W → Calls Tryz.prog F (#[.int .i64 (i : Nat), .int .i64 (j : Nat)] ++ caps) W fun e w' => (∃ v, e = .returned v ∧ IsInt w' v (f i j)) ∧ Below W.heap.size W w'
end Go.Proofs.YtdllbdfchloijaaGreatDoor

/- matrix: Rows, Cols, square, Identity; a matrix in a variable. -/
namespace Go.Proofs.YtdllbdfchloijaaGreatDoor
open Num
open Go.ChangeShapes Go.WideShapes Go.ChangeAt Go.RowKit
set_option linter.unusedVariables false
set_option linter.unusedSimpArgs false
attribute [local go_sem ↓] Go.wp_at_zero Go.wp_at_succ
/-- the number at a place -/
def gat (g : Grid) (i j : Nat) : Int := (g.getD i []).getD j 0
theorem IsM.lit {base : Nat} {w : World} {v : Value} {g : Grid} (h : IsM base w v g) : ∃ a c, v = .agg #[.slice a g.length c] := by obtain ⟨a, c, e, _⟩ := h; exact ⟨a, c, e⟩
/-- a matrix in a variable -/
def BoxM (b : Nat) (w : World) (g : Grid) : Prop := ∃ a c, w.cell? ⟨b, 0, none⟩ = some (.slice a g.length c) ∧ IsL 43 (PRow 0) 0 w (.slice a g.length c) g
theorem BoxM.keep {b : Nat} {w w' : World} {g : Grid} (h : BoxM b w g) (k : Below w.heap.size w w') : BoxM b w' g := by
  obtain ⟨a, c, e, h⟩ := h; exact ⟨a, c, bkeep k e, h.keep (prs_prow 0) k⟩
theorem IsL.row {base : Nat} {w : World} {v : Value} {g : Grid} (h : IsL 43 (PRow base) base w v g) {i : Nat} (hi : i < g.length) :
    ∃ c gb go ra rc, v = .slice (some ⟨gb, go, none⟩) g.length c ∧ w.cell? ⟨gb, go + i, none⟩ = some (.slice ra (g.getD i []).length rc) ∧ PRow base w (.slice ra (g.getD i []).length rc) (g.getD i []) := by
  obtain ⟨a, c, e, _, hv⟩ := h.view
  obtain ⟨gb, go, u, rfl, hu, hr⟩ := hv i hi
  have e2 : g[i] = g.getD i [] := by simp [hi]
  rw [e2] at hr
  have hr2 := hr
  obtain ⟨ra, rc, rfl, _⟩ := hr2
  exact ⟨c, gb, go, ra, rc, e, hu, hr⟩
theorem BoxM.row {b : Nat} {w : World} {g : Grid} (h : BoxM b w g) {i : Nat} (hi : i < g.length) :
    ∃ c gb go ra rc, w.cell? ⟨b, 0, none⟩ = some (.slice (some ⟨gb, go, none⟩) g.length c) ∧ w.cell? ⟨gb, go + i, none⟩ = some (.slice ra (g.getD i []).length rc) ∧ PRow 0 w (.slice ra (g.getD i []).length rc) (g.getD i []) := by
  obtain ⟨a, c, e, h⟩ := h
  obtain ⟨c', gb, go, ra, rc, e2, hu, hp⟩ := h.row hi
  obtain ⟨rfl, -, rfl⟩ := Value.slice.inj e2
  exact ⟨c, gb, go, ra, rc, e, hu, hp⟩
end Go.Proofs.YtdllbdfchloijaaGreatDoor

/- matrix: Plus, Scale, Turn, Times. -/
namespace Go.Proofs.YtdllbdfchloijaaGreatDoor
open Num
open Go.ChangeShapes Go.WideShapes Go.ChangeAt Go.RowKit
set_option linter.unusedVariables false
set_option linter.unusedSimpArgs false
attribute [local go_sem ↓] Go.wp_at_zero Go.wp_at_succ
/-- numbers of so many bits -/
def BdM (k : Nat) (g : Grid) : Prop := ∀ i j, Bd k (gat g i j)
theorem BdM.mono {k m : Nat} {g : Grid} (h : BdM k g) (hk : k ≤ m) : BdM m g := fun i j => (h i j).mono hk
theorem FnF.mono {f : Nat → Nat → Int} {n m F : Nat} {caps : Array Value} {w w' : World} (h : FnF f n m F caps w) (k : Below w.heap.size w w') : FnF f n m F caps w' := fun W i j hi hj q => h W i j hi hj (bthen k q)
end Go.Proofs.YtdllbdfchloijaaGreatDoor

/- matrix: Scale, Turn. -/
namespace Go.Proofs.YtdllbdfchloijaaGreatDoor
open Num
open Go.ChangeShapes Go.WideShapes Go.ChangeAt Go.RowKit
set_option linter.unusedVariables false
set_option linter.unusedSimpArgs false
attribute [local go_sem ↓] Go.wp_at_zero Go.wp_at_succ
end Go.Proofs.YtdllbdfchloijaaGreatDoor

/- matrix: Times. -/
namespace Go.Proofs.YtdllbdfchloijaaGreatDoor
open Num
open Go.ChangeShapes Go.WideShapes Go.ChangeAt Go.RowKit
set_option linter.unusedVariables false
set_option linter.unusedSimpArgs false
attribute [local go_sem ↓] Go.wp_at_zero Go.wp_at_succ
end Go.Proofs.YtdllbdfchloijaaGreatDoor

/- eval: Value. -/
namespace Go.Proofs.YtdllbdfchloijaaGreatDoor
open Pt
open Num
open Go.ChangeShapes Go.WideShapes Go.ChangeAt Go.RowKit
set_option linter.unusedVariables false
set_option linter.unusedSimpArgs false
attribute [local go_sem ↓] Go.wp_at_zero Go.wp_at_succ
theorem IsInt.litE {w : World} {v : Value} {z : Int} (h : IsInt w v z) : ∃ n a l c, v = .agg #[.bool n, .slice a l c] := by
  obtain ⟨n, a, c, l, rfl, -⟩ := h
  exact ⟨n, a, l.length, c, rfl⟩
/-- the value of coefficients at a point -/
def hvL (l : List Int) (a b : Int) : Int := Det.hv l.length (fun i => l.getD i 0) a b
/-- the first summands of it -/
def hvP (l : List Int) (a b : Int) (j : Nat) : Int := Det.isum j fun m => l.getD m 0 * Det.pf a b l.length m
theorem hvP_all (l : List Int) (a b : Int) : hvP l a b l.length = hvL l a b := rfl
theorem pf_bd {a b : Int} (h : PIn a b) {n : Nat} (hn : n ≤ 16) (i : Nat) (hi : i < n) : Bd 200 (Det.pf a b n i) := by
  unfold Det.pf
  exact ((bd_pt h.1 h.2.1).pow i).mul ((bd_pt h.2.2.1 h.2.2.2).pow (n - 1 - i)) |>.mono (by omega)
theorem hvP_bd {l : List Int} {a b : Int} {K : Nat} (h : PIn a b) (hl : l.length ≤ 16) (hb : ∀ j, Bd K (l.getD j 0)) : ∀ j, j ≤ l.length → Bd (K + 200 + j) (hvP l a b j) := by
  intro j
  induction j with
  | zero => intro _; exact bd_zero
  | succ j ih =>
    intro hj
    have h1 : Bd (K + 200 + j) (l.getD j 0 * Det.pf a b l.length j) := ((hb j).mul (pf_bd h hl j (by omega))).mono (by omega)
    exact Bd.add (ih (by omega)) h1
set_option maxRecDepth 100000 in
set_option maxHeartbeats 8000000 in
theorem value_no (v : Value) (l : List Int) (a b : Int) (w : World) (hv : PRow 0 w v l) (h : ¬ (1 ≤ l.length ∧ l.length ≤ 16 ∧ PIn a b)) :
    Calls Tryz.prog 22 #[v, pv a b] w fun e w' => e = .returned (.tuple #[.agg #[.bool false, .slice none 0 0], .int .i64 2]) ∧ Below w.heap.size w w' := by
  obtain ⟨va, vc, rfl, -, -⟩ := hv.view
  obtain ⟨n, hn⟩ : ∃ n, l.length = n := ⟨_, rfl⟩
  rw [hn] at h ⊢
  clear hv hn
  have hB := Below.refl w.heap.size w
  by_cases h1 : n < 1
  · have d1 : decide ((n : Int) < 1) = true := decide_eq_true (by omega)
    go_enter Tryz.func22, Tryz.ntmps22
    go_wp2
    refine bodyPost_ret (v := .tuple #[.agg #[.bool false, .slice none 0 0], .int .i64 2]) (by simp [results, Tryz.results22, go_sem, *]) rfl ⟨rfl, by repeat (first | exact Below.refl _ _ | exact hB | refine Below.drew ?_ | refine below_drewN ?_ _ | refine bset ?_ (by simp <;> omega) _ | refine bal ?_ _)⟩
  have d1 : decide ((n : Int) < 1) = false := decide_eq_false (by omega)
  by_cases h2 : 16 < n
  · have d2 : decide (16 < (n : Int)) = true := decide_eq_true (by omega)
    go_enter Tryz.func22, Tryz.ntmps22
    go_wp2
    refine bodyPost_ret (v := .tuple #[.agg #[.bool false, .slice none 0 0], .int .i64 2]) (by simp [results, Tryz.results22, go_sem, *]) rfl ⟨rfl, by repeat (first | exact Below.refl _ _ | exact hB | refine Below.drew ?_ | refine below_drewN ?_ _ | refine bset ?_ (by simp <;> omega) _ | refine bal ?_ _)⟩
  have d2 : decide (16 < (n : Int)) = false := decide_eq_false (by omega)
  have cc := fun W => ptIn_v a b false W (inB_no fun q => h ⟨by omega, by omega, q⟩)
  clear h
  go_enter Tryz.func22, Tryz.ntmps22
  go_wp2_with fail
  refine (cc _).mono ?_
  rintro e w1 ⟨rfl, hb1⟩
  have r0 : w1.cell? ⟨w.heap.size + 1, 0, none⟩ = some (.bool false) := bkc hb1
  have zr0 := cell_lt r0
  have r0f : w1.frozen? ⟨w.heap.size + 1, 0, none⟩ = false := bkcf (v := .bool false) hb1
  have r1 : w1.cell? ⟨w.heap.size + 1, 1, none⟩ = some (.slice none 0 0) := bkc hb1
  have r1f : w1.frozen? ⟨w.heap.size + 1, 1, none⟩ = false := bkcf (v := .slice none 0 0) hb1
  have hB : Below w.heap.size w w1 := bthen (by repeat (first | exact Below.refl _ _ | exact hB | refine Below.drew ?_ | refine below_drewN ?_ _ | refine bset ?_ (by simp <;> omega) _ | refine bal ?_ _)) hb1
  have hz : w.heap.size ≤ w1.heap.size := hB.size
  clear cc hb1
  go_wp2
  refine bodyPost_ret (v := .tuple #[.agg #[.bool false, .slice none 0 0], .int .i64 2]) (by simp [results, Tryz.results22, go_sem, *]) rfl ⟨rfl, by repeat (first | exact Below.refl _ _ | exact hB | refine Below.drew ?_ | refine below_drewN ?_ _ | refine bset ?_ (by simp <;> omega) _ | refine bal ?_ _)⟩
set_option maxRecDepth 100000 in
set_option maxHeartbeats 16000000 in
theorem value_c (v : Value) (l : List Int) (K : Nat) (a b : Int) (w : World) (hv : PRow 0 w v l) (h1 : 1 ≤ l.length) (h2 : l.length ≤ 16) (hp : PIn a b) (hb : ∀ j, Bd K (l.getD j 0)) (hK : K ≤ 1000000) :
    Calls Tryz.prog 22 #[v, pv a b] w fun e w' => (∃ u, e = .returned (.tuple #[u, .int .i64 0]) ∧ IsInt w' u (hvL l a b)) ∧ Below w.heap.size w w' := by
  have HV := Lib.hid hv
  obtain ⟨va, vc, rfl, -, -⟩ := hv.view
  have HBP := Lib.hid (hvP_bd hp h2 hb)
  have HBL := Lib.hid hb
  have HPF := Lib.hid (fun i (hi : i < l.length) => pf_bd hp h2 i hi)
  have HST := Lib.hid (fun j => (show hvP l a b (j + 1) = hvP l a b j + l.getD j 0 * Det.pf a b l.length j from rfl))
  have HAL := Lib.hid (hvP_all l a b)
  obtain ⟨n, hn⟩ : ∃ n, l.length = n := ⟨_, rfl⟩
  have HN := Lib.hid hn
  rw [hn] at HBP HPF HST HAL h1 h2 ⊢
  obtain ⟨S, hS⟩ : ∃ S, hvP l a b = S := ⟨_, rfl⟩
  have HS0 := Lib.hid (show S 0 = 0 by rw [← hS]; rfl)
  rw [hS] at HBP HST HAL
  clear hv hn hb hS
  have hB := Below.refl w.heap.size w
  have d1 : decide ((n : Int) < 1) = false := decide_eq_false (by omega)
  have d2 : decide (16 < (n : Int)) = false := decide_eq_false (by omega)
  have cc := fun W => ptIn_v a b true W (inB_yes hp)
  have pc := fun W => ptPow_yes a b n W hp h2
  go_enter Tryz.func22, Tryz.ntmps22
  go_wp2_with fail
  refine (cc _).mono ?_
  rintro e w1 ⟨rfl, hb1⟩
  have p0 : w1.cell? ⟨w.heap.size, 0, none⟩ = some (.int .i64 a) := bkc hb1
  have zp0 := cell_lt p0
  have p1 : w1.cell? ⟨w.heap.size, 1, none⟩ = some (.int .i64 b) := bkc hb1
  have r0 : w1.cell? ⟨w.heap.size + 1, 0, none⟩ = some (.bool false) := bkc hb1
  have zr0 := cell_lt r0
  have r0f : w1.frozen? ⟨w.heap.size + 1, 0, none⟩ = false := bkcf (v := .bool false) hb1
  have r1 : w1.cell? ⟨w.heap.size + 1, 1, none⟩ = some (.slice none 0 0) := bkc hb1
  have r1f : w1.frozen? ⟨w.heap.size + 1, 1, none⟩ = false := bkcf (v := .slice none 0 0) hb1
  have hB : Below w.heap.size w w1 := bthen (by repeat (first | exact Below.refl _ _ | exact hB | refine Below.drew ?_ | refine below_drewN ?_ _ | refine bset ?_ (by simp <;> omega) _ | refine bal ?_ _)) hb1
  have hz : w.heap.size ≤ w1.heap.size := hB.size
  clear cc hb1
  go_wp2_with fail
  refine (pc _).mono ?_
  rintro e w2 ⟨⟨g, rfl, hg⟩, hb2⟩
  have p0 : w2.cell? ⟨w.heap.size, 0, none⟩ = some (.int .i64 a) := bkc hb2
  have zp0 := cell_lt p0
  have p1 : w2.cell? ⟨w.heap.size, 1, none⟩ = some (.int .i64 b) := bkc hb2
  have r0 : w2.cell? ⟨w.heap.size + 1, 0, none⟩ = some (.bool false) := bkc hb2
  have zr0 := cell_lt r0
  have r0f : w2.frozen? ⟨w.heap.size + 1, 0, none⟩ = false := bkcf (v := .bool false) hb2
  have r1 : w2.cell? ⟨w.heap.size + 1, 1, none⟩ = some (.slice none 0 0) := bkc hb2
  have r1f : w2.frozen? ⟨w.heap.size + 1, 1, none⟩ = false := bkcf (v := .slice none 0 0) hb2
  have hB : Below w.heap.size w w2 := bthen (by repeat (first | exact Below.refl _ _ | exact hB | refine Below.drew ?_ | refine below_drewN ?_ _ | refine bset ?_ (by simp <;> omega) _ | refine bal ?_ _)) hb2
  have hz : w.heap.size ≤ w2.heap.size := hB.size
  have HG := Lib.hid hg
  have H2 := Lib.hid (And.intro hB (And.intro (And.intro r0 r1) (And.intro r0f r1f)))
  have hBw := Below.refl w2.heap.size w2
  clear pc hb2 hg hB p0 p1 r0 r1 r0f r1f
  go_wp2
  go_loopw [38] (fun x wr => ∃ j : Nat, j ≤ n ∧ x = .int .i64 j ∧ Below w2.heap.size w2 wr ∧ Hid (VarI w2.heap.size (S j) wr)) (fun x _ => n - (intOf x).toNat)
  case atStart => exact ⟨0, Nat.zero_le _, rfl, by repeat (first | exact Below.refl _ _ | exact hBw | refine Below.drew ?_ | refine below_drewN ?_ _ | refine bset ?_ (by simp <;> omega) _ | refine bal ?_ _), Lib.hid (by rw [HS0.out]; exact ⟨typ_fresh (by simp), false, none, 0, 0, by simp [go_sem], by simp [go_sem], by simp [go_sem], by simp [go_sem], isInt_zero _⟩)⟩
  case round =>
    obtain ⟨j, hj, rfl, hBr, hV⟩ := hrel
    by_cases hlt : j < n
    · have hltI : (j : Int) < (n : Int) := by omega
      have HLT := Lib.hid hlt
      obtain ⟨_, _, e, -, vr⟩ := (IsRow.keep lims_int HV.out (bthen H2.out.1 hBr)).view
      cases e
      obtain ⟨xb, xo, xn, xa, xl, xc, e, d0, d1, hx⟩ := vr j (by rw [HN.out]; exact hlt)
      cases e
      obtain ⟨gn, ga, gl, gc, g0, g1, hgi⟩ := (HG.out.keep lims_int hBr).at0 hlt
      have zd := cell_lt d0
      have zg := cell_lt g0
      have zv := typ_lt hV.out.1
      have hBw := Below.refl wr.heap.size wr
      clear vr
      go_wp2
      refine wp_name fun w4 hW4 => ?_
      have hk4 : Below wr.heap.size wr w4 := by rw [hW4]; repeat (first | exact Below.refl _ _ | exact hBw | refine Below.drew ?_ | refine below_drewN ?_ _ | refine bset ?_ (by simp <;> omega) _ | refine bal ?_ _)
      have x0 : w4.cell? ⟨wr.heap.size, 0, none⟩ = some (.bool xn) := by rw [hW4]; simp [go_sem]
      have x1 : w4.cell? ⟨wr.heap.size, 1, none⟩ = some (.slice xa xl xc) := by rw [hW4]; simp [go_sem]
      have HXI := Lib.hid (hx.lim (.of_below hk4))
      have HGI := Lib.hid (hgi.lim (.of_below hk4))
      have V4 := Lib.hid (hV.out.keep hk4)
      have hB4 := bthen hBr hk4
      replace g0 := bkeep hk4 g0
      replace g1 := bkeep hk4 g1
      obtain ⟨-, sn, sa, sl, sc, s0, s1, s0f, s1f, hs⟩ := V4.out
      have HSI := Lib.hid hs
      have HSE := Lib.hid (HST.out j)
      have HB1 := Lib.hid (And.intro (HBL.out j) (And.intro (HPF.out j hlt) (HBP.out j hj)))
      obtain ⟨xz, hxz⟩ : ∃ z, l.getD j 0 = z := ⟨_, rfl⟩
      obtain ⟨pz, hpz⟩ : ∃ z, Det.pf a b n j = z := ⟨_, rfl⟩
      rw [hxz] at HXI HSE HB1
      rw [hpz] at HSE HB1
      have hgz : powF a b n j = pz := hpz
      rw [hgz] at HGI
      have MC := Lib.hid (fun W (q : Below w4.heap.size w4 W) => mul_c (.agg #[.bool xn, .slice xa xl xc]) (.agg #[.bool gn, .slice ga gl gc]) xz pz K 200 W (HXI.out.keep q) (HGI.out.keep q) HB1.out.1 HB1.out.2.1 (by omega) (by decide))
      have AC := Lib.hid (fun u W (q : Below w4.heap.size w4 W) (hu : IsInt W u (xz * pz)) => addI_c (.agg #[.bool sn, .slice sa sl sc]) u (S j) (xz * pz) (K + 200 + j) W (HSI.out.keep q) hu HB1.out.2.2 ((HB1.out.1.mul HB1.out.2.1).mono (by omega)) (by omega))
      have HC := Lib.hid (show ∀ V, Below w4.heap.size w4 V → V.cell? ⟨w2.heap.size, 0, none⟩ = some (.bool sn) ∧ V.cell? ⟨w2.heap.size, 1, none⟩ = some (.slice sa sl sc) ∧ V.cell? ⟨wr.heap.size, 0, none⟩ = some (.bool xn) ∧ V.cell? ⟨wr.heap.size, 1, none⟩ = some (.slice xa xl xc) ∧ V.cell? ⟨g, j * 2, none⟩ = some (.bool gn) ∧ V.cell? ⟨g, j * 2 + 1, none⟩ = some (.slice ga gl gc) ∧ V.frozen? ⟨w2.heap.size, 0, none⟩ = false ∧ V.frozen? ⟨w2.heap.size, 1, none⟩ = false from fun V q => ⟨bkeep q s0, bkeep q s1, bkeep q x0, bkeep q x1, bkeep q g0, bkeep q g1, bkeepf q s0 s0f, bkeepf q s1 s1f⟩)
      clear hW4 hk4 hx hgi hs hxz hpz hgz hV d0 d1 zd hBw hBr
      have zs := cell_lt s0
      have zx := cell_lt x0
      have zg := cell_lt g0
      have hBw := Below.refl w4.heap.size w4
      go_region_law (go_simp; go_wp2_with (first
        | (go_at_call 57; (with_reducible refine (MC.out _ ?_).mono ?_); (repeat (first | exact Below.refl _ _ | exact hBw | refine Below.drew ?_ | refine below_drewN ?_ _ | refine bset ?_ (by simp <;> omega) _ | refine bal ?_ _)); rintro e w5 ⟨⟨u5, rfl, hu⟩, hb5⟩; (have hBd : Below w4.heap.size w4 w5 := bthen (by repeat (first | exact Below.refl _ _ | exact hBw | refine Below.drew ?_ | refine below_drewN ?_ _ | refine bset ?_ (by simp <;> omega) _ | refine bal ?_ _)) hb5; clear hBw; have hBw := hBd; clear hBd); obtain ⟨s0, s1, x0, x1, g0, g1, s0f, s1f⟩ := HC.out w5 hBw; have HU5 := Lib.hid hu; have hy5 := Below.refl w5.heap.size w5; have zs5 := cell_lt s0; have zx5 := cell_lt x0; have zg5 := cell_lt g0; obtain ⟨n5, a5, l5, k5, rfl⟩ := hu.litE; clear hu)
        | (go_at_call 56; (with_reducible refine (AC.out _ _ ?_ (HU5.out.keep ?_)).mono ?_); (repeat (first | exact Below.refl _ _ | exact hBw | refine Below.drew ?_ | refine below_drewN ?_ _ | refine bset ?_ (by simp <;> omega) _ | refine bal ?_ _)); (repeat (first | exact Below.refl _ _ | exact hy5 | refine Below.drew ?_ | refine below_drewN ?_ _ | refine bset ?_ (by simp <;> omega) _ | refine bal ?_ _)); rintro e w6 ⟨⟨u6, rfl, hu⟩, hb6⟩; (have hBd : Below w4.heap.size w4 w6 := bthen (by repeat (first | exact Below.refl _ _ | exact hBw | refine Below.drew ?_ | refine below_drewN ?_ _ | refine bset ?_ (by simp <;> omega) _ | refine bal ?_ _)) hb6; clear hBw; have hBw := hBd; clear hBd); obtain ⟨s0, s1, x0, x1, g0, g1, s0f, s1f⟩ := HC.out w6 hBw; have HU6 := Lib.hid hu; have zs6 := cell_lt s0; obtain ⟨n6, a6, l6, k6, rfl⟩ := hu.litE; clear hu)
        | fail))
      all_goals
        have HV6 := Lib.hid (show VarI w2.heap.size (S (j + 1)) ((w6.setCell ⟨w2.heap.size, 0, none⟩ (.bool n6)).setCell ⟨w2.heap.size, 1, none⟩ (.slice a6 l6 k6)) from ⟨by rw [typ_set, typ_set]; exact typ_keep V4.out.1 hBw, n6, a6, l6, k6, cell_far (cell_here s0 _) (by simp) _, cell_here (cell_far s1 (by simp) _) _, by simpa [go_sem] using s0f, by simpa [go_sem] using s1f, by rw [HSE.out]; exact HU6.out.put2 s0 s1 _ _⟩)
        have hB6 := bset (bset (bthen hB4 hBw) (p := ⟨w2.heap.size, 0, none⟩) (Nat.le_refl _) (.bool n6)) (p := ⟨w2.heap.size, 1, none⟩) (Nat.le_refl _) (.slice a6 l6 k6)
        have hlJ := HLT.out
        clear MC AC HC V4 HU5 HU6 HSE HSI HXI HGI x0 x1 g0 g1 zs zx zg hBw hB4
        go_wp2
        exact ⟨⟨j + 1, hlJ, by go_num, hB6, HV6⟩, measS hlJ (by go_num) rfl⟩
    · obtain rfl : n = j := by omega
      have hltI : ¬ (n : Int) < (n : Int) := by omega
      have r0 := bkeep hBr H2.out.2.1.1
      have r1 := bkeep hBr H2.out.2.1.2
      have r0f := bkeepf hBr H2.out.2.1.1 H2.out.2.2.1
      have r1f := bkeepf hBr H2.out.2.1.2 H2.out.2.2.2
      obtain ⟨-, sn, sa, sl, sc, s0, s1, s0f, s1f, hs⟩ := hV.out
      have hbt := bthen H2.out.1 hBr
      have HP := Lib.hid (hs.put2 r0 r1)
      have zr := cell_lt r0
      have zs := cell_lt s0
      have hB := hbt
      clear hs hbt hV
      go_wp2
      refine bodyPost_ret (v := .tuple #[.agg #[.bool sn, .slice sa sl sc], .int .i64 0]) (by simp [results, Tryz.results22, go_sem, *]) rfl ⟨⟨_, rfl, ?_⟩, ?_⟩
      · rw [← HAL.out]; exact HP.out _ _
      ·
        repeat (first | exact Below.refl _ _ | exact hB | refine Below.drew ?_ | refine below_drewN ?_ _ | refine bset ?_ (by simp <;> omega) _ | refine bal ?_ _)
end Go.Proofs.YtdllbdfchloijaaGreatDoor

/- matrix: Times, square, New. -/
namespace Go.Proofs.YtdllbdfchloijaaGreatDoor
open Num
open Go.ChangeShapes Go.WideShapes Go.ChangeAt Go.RowKit
set_option linter.unusedVariables false
set_option linter.unusedSimpArgs false
attribute [local go_sem ↓] Go.wp_at_zero Go.wp_at_succ
end Go.Proofs.YtdllbdfchloijaaGreatDoor

/- matrix: New. -/
namespace Go.Proofs.YtdllbdfchloijaaGreatDoor
open Num
open Go.ChangeShapes Go.WideShapes Go.ChangeAt Go.RowKit
set_option linter.unusedVariables false
set_option linter.unusedSimpArgs false
attribute [local go_sem ↓] Go.wp_at_zero Go.wp_at_succ
/-- a variable that holds a matrix -/
structure VarMx (b : Nat) (w : World) (v : Value) : Prop where
  ty : typOf w b = some 73
  c : w.cell? ⟨b, 0, none⟩ = some v
  f : w.frozen? ⟨b, 0, none⟩ = false
theorem VarMx.keep {b : Nat} {w w' : World} {v : Value} (h : VarMx b w v) (k : Below w.heap.size w w') : VarMx b w' v := ⟨typ_keep h.ty k, bkeep k h.c, bkeepf k h.c h.f⟩
theorem VarMx.kp {b : Nat} {S : TypeId → Prop} {w w' : World} {v : Value} (h : VarMx b w v) (k : Kp S w w') (hs : S 73) : VarMx b w' v := ⟨k.typ h.ty hs, k.cell h.ty hs h.c, k.frz h.ty hs h.f⟩
theorem VarMx.set {b : Nat} {w : World} {v : Value} (h : VarMx b w v) (u : Value) : VarMx b (w.setCell ⟨b, 0, none⟩ u) u := ⟨by rw [typ_set]; exact h.ty, cell_here h.c u, by rw [World.frozen?_setCell]; exact h.f⟩
theorem VarMx.far {b : Nat} {w : World} {v : Value} (h : VarMx b w v) {p : Addr} (hp : p.block ≠ b) (u : Value) : VarMx b (w.setCell p u) v := ⟨by rw [typ_set]; exact h.ty, cell_far h.c (fun e => hp (by rw [e])) u, by rw [World.frozen?_setCell]; exact h.f⟩
end Go.Proofs.YtdllbdfchloijaaGreatDoor

