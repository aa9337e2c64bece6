/- Texts of this seat, laid together: ExJ, ExN, ExO, RwG, MxA, MxB, MxC, MxD, MxE, MxF, IntM, MxT. Each opens with its own remark, which says what it proves, and under which conditions. -/
import Derived.Test.YtdllbdfchloijaaGreatDoorV20
import Derived.Test.YtdllbdfchloijaaGreatDoorV13
import Derived.Test.YtdllbdfchloijaaGreatDoorV17
import Derived.Shelf.RegionOpen
import Derived.Deep.RegionLaw
import Derived.Test.YtdllbdfchloijaaGreatDoorV12
import Derived.StillTailTactics
import Derived.Test.YtdllbdfchloijaaGreatDoorV01
import Derived.Test.YtdllbdfchloijaaGreatDoorV02
import Derived.Test.YtdllbdfchloijaaGreatDoorV09
import Derived.Deep.DeepFit
import Derived.Deep.DeepCutAuto
import Derived.Test.YtdllbdfchloijaaGreatDoorV07
set_option linter.unusedVariables false
set_option linter.unusedSimpArgs false
/- exact: Rows, Judge. -/
namespace Go.Proofs.YtdllbdfchloijaaGreatDoor
open Num
open Go.ChangeShapes Go.WideShapes Go.ChangeAt Go.RowKit
set_option linter.unusedVariables false
set_option linter.unusedSimpArgs false
attribute [local go_sem ↓] Go.wp_at_zero Go.wp_at_succ
/-- run's answer, an int -/
theorem runRRes {code : List Ins} {g : Grid} {rb : Nat} {w : World} {e : Ending} {w' : World} (h : RunRPost code g rb w e w') : (∃ q : Int, e = .returned (.int .i64 q) ∧ ((∃ (m : Nat) (s : Grid), m < code.length ∧ after code g m = some s ∧ after code g (m + 1) = none ∧ q = m) ∨ (∃ s, after code g code.length = some s ∧ q = -1 ∧ RegsP 0 w' rb s))) ∧ Out (fun k => k = rb) w w' := by
  obtain ⟨h, hO⟩ := h
  refine ⟨?_, hO⟩
  rcases h with ⟨m, s, h1, h2, h3, rfl⟩ | ⟨s, h1, rfl, h2⟩
  · exact ⟨_, rfl, .inl ⟨m, s, h1, h2, h3, rfl⟩⟩
  · exact ⟨_, rfl, .inr ⟨s, h1, rfl, h2⟩⟩
/-- a row of the call's own, in a block from lo on; behind which block the next may lie -/
def RowLH (w : World) (v : Value) (x : List Int × Nat × Nat) : Prop := RowO IsInt 50 x.2.1 w v x.1 ∧ x.2.2 = (rowBlk v).elim 0 (· + 1)
theorem prs_rowLH : Prs (fun t => t = 106 ∨ t = 50) RowLH :=
  ⟨fun h => (prs_rowO lims_int _ _).one h.1, fun h k => ⟨(prs_rowO lims_int _ _).kp h.1 k, h.2⟩⟩
/-- rows in blocks that lie one behind the other -/
def AscLH (gs : List (List Int × Nat × Nat)) : Prop := ∀ i j (hi : i < gs.length) (hj : j < gs.length), i < j → gs[i].2.2 ≤ gs[j].2.1
theorem RowLH.hi {w : World} {v : Value} {x : List Int × Nat × Nat} (h : RowLH w v x) : x.2.2 ≤ w.heap.size := by
  rw [h.2]
  cases e : rowBlk v with
  | none => exact Nat.zero_le _
  | some b => exact typ_lt (rowO_blk h.1 e).2
theorem OwnL.mapd {α β : Type} {T : TypeId} {Pr : World → Value → α → Prop} {Pr' : World → Value → β → Prop} {w0 wr : World} {v : Value} {g : List α} (f : α → β) (h : OwnL T Pr w0 wr v g) (hf : ∀ u x, x ∈ g → Pr wr u x → Pr' wr u (f x)) : OwnL T Pr' w0 wr v (g.map f) := by
  obtain ⟨xs, h1, h2⟩ := h
  refine ⟨xs, by rw [List.length_map]; exact h1, fun k hk => ?_⟩
  rw [List.length_map] at hk
  obtain ⟨u, hu, hp⟩ := h2 k hk
  exact ⟨u, hu, by rw [List.getElem_map]; exact hf _ _ (List.getElem_mem hk) hp⟩
theorem ascLH_snoc {gs : List (List Int × Nat × Nat)} {x : List Int × Nat × Nat} (h : AscLH gs) (hx : ∀ i (hi : i < gs.length), gs[i].2.2 ≤ x.2.1) : AscLH (gs ++ [x]) := by
  intro i j hi hj hij
  simp at hi hj
  have hi' : i < gs.length := by omega
  rw [List.getElem_append_left hi']
  by_cases e : j < gs.length
  · rw [List.getElem_append_left e]; exact h i j hi' e hij
  · rw [List.getElem_append_right (by omega)]
    have : j - gs.length = 0 := by omega
    simp [this]; exact hx i hi'
/-- what Rows answers -/
def ExRowsPost (ins regs : Int) (code : List Ins) (outs : List Int) (g : Grid) (w : World) (e : Ending) (w' : World) : Prop :=
  ((¬ ProgOk ins regs code outs ∧ e = .returned (.tuple #[.slice none 0 0, .int .i64 0, .int .i64 80])) ∨
   (ProgOk ins regs code outs ∧ ¬ FitsG ins g ∧ e = .returned (.tuple #[.slice none 0 0, .int .i64 0, .int .i64 5])) ∨
   (ProgOk ins regs code outs ∧ FitsG ins g ∧ ∃ (k : Nat) (h : Grid), k < code.length ∧ after code (startG g regs.toNat (g.getD 0 []).length) k = some h ∧ after code (startG g regs.toNat (g.getD 0 []).length) (k + 1) = none ∧ e = .returned (.tuple #[.slice none 0 0, .int .i64 k, .int .i64 20])) ∨
   (ProgOk ins regs code outs ∧ FitsG ins g ∧ ∃ (h : Grid) (v : Value), after code (startG g regs.toNat (g.getD 0 []).length) code.length = some h ∧ e = .returned (.tuple #[v, .int .i64 0, .int .i64 0]) ∧ OwnL 43 (RowO IsInt 50 w.heap.size) w w' v (outsG outs h))) ∧ Below w.heap.size w w'
/-- the same; its rows lie one behind the other -/
def ExRowsPostX (ins regs : Int) (code : List Ins) (outs : List Int) (g : Grid) (w : World) (e : Ending) (w' : World) : Prop :=
  ((¬ ProgOk ins regs code outs ∧ e = .returned (.tuple #[.slice none 0 0, .int .i64 0, .int .i64 80])) ∨
   (ProgOk ins regs code outs ∧ ¬ FitsG ins g ∧ e = .returned (.tuple #[.slice none 0 0, .int .i64 0, .int .i64 5])) ∨
   (ProgOk ins regs code outs ∧ FitsG ins g ∧ ∃ (k : Nat) (h : Grid), k < code.length ∧ after code (startG g regs.toNat (g.getD 0 []).length) k = some h ∧ after code (startG g regs.toNat (g.getD 0 []).length) (k + 1) = none ∧ e = .returned (.tuple #[.slice none 0 0, .int .i64 k, .int .i64 20])) ∨
   (ProgOk ins regs code outs ∧ FitsG ins g ∧ ∃ (h : Grid) (v : Value) (gs : List (List Int × Nat × Nat)), after code (startG g regs.toNat (g.getD 0 []).length) code.length = some h ∧ e = .returned (.tuple #[v, .int .i64 0, .int .i64 0]) ∧ gs.map (·.1) = outsG outs h ∧ AscLH gs ∧ (∀ x ∈ gs, w.heap.size ≤ x.2.1) ∧ OwnL 43 RowLH w w' v gs)) ∧ Below w.heap.size w w'
theorem ExRowsPostX.plain {ins regs : Int} {code : List Ins} {outs : List Int} {g : Grid} {w : World} {e : Ending} {w' : World} (h : ExRowsPostX ins regs code outs g w e w') : ExRowsPost ins regs code outs g w e w' := by
  obtain ⟨h, hB⟩ := h
  refine ⟨?_, hB⟩
  rcases h with h | h | h | ⟨h1, h2, h, v, gs, h3, h4, h5, h6, h7, h8⟩
  · exact .inl h
  · exact .inr (.inl h)
  · exact .inr (.inr (.inl h))
  · refine .inr (.inr (.inr ⟨h1, h2, h, v, h3, h4, ?_⟩))
    rw [← h5]
    exact h8.mapd _ fun u x hx hr => hr.1.rebase (h7 x hx)
set_option maxRecDepth 100000 in
set_option maxHeartbeats 16000000 in
theorem exRowsX_c (ins regs : Int) (ca oa : Option Addr) (cc oc : Nat) (code : List Ins) (outs : List Int) (vg : Value) (g : Grid) (K : Nat) (w : World) (hc : InsV w ca cc code) (ho : IntsV w oa oc outs) (hg : GridV w vg g) (hm0 : (g.getD 0 []).length ≤ 1099511627776) (hb : BdG K g) (hK : K ≤ 2147483648) :
    Calls Tryz.prog 45 #[.agg #[.int .i64 ins, .int .i64 regs, .slice ca code.length cc, .slice oa outs.length oc], vg] w (ExRowsPostX ins regs code outs g w) := by
  have kl := fun W (h : Below w.heap.size w W) => laid_c ins regs ca oa cc oc code outs vg g W (hc.keep h) (ho.keep h) (hg.keep (prs_row lims_int _ _) h) hm0
  have HC := Lib.hid (And.intro hc ho)
  have HBD := Lib.hid hb
  obtain ⟨ga, gc, rfl, hgc, -⟩ := hg.view
  clear hc ho hg hb
  have hB := Below.refl w.heap.size w
  go_enter Tryz.func45, Tryz.ntmps45
  go_wp2_with fail
  refine (kl _ (by repeat (first | exact Below.refl _ _ | exact hB | refine Below.drew ?_ | refine below_drewN ?_ _ | refine bset ?_ (by simp <;> omega) _ | refine bal ?_ _))).mono ?_
  rintro e w1 ⟨hp, hb1⟩
  have p0 : w1.cell? ⟨w.heap.size, 0, none⟩ = some (.int .i64 ins) := bkc hb1
  have zp0 := cell_lt p0
  have p1 : w1.cell? ⟨w.heap.size, 1, none⟩ = some (.int .i64 regs) := bkc hb1
  have p2 : w1.cell? ⟨w.heap.size, 2, none⟩ = some (.slice ca code.length cc) := bkc hb1
  have p3 : w1.cell? ⟨w.heap.size, 3, none⟩ = some (.slice oa outs.length oc) := bkc hb1
  have hB : Below w.heap.size w w1 := bthen (by repeat (first | exact Below.refl _ _ | exact hB | refine Below.drew ?_ | refine below_drewN ?_ _ | refine bset ?_ (by simp <;> omega) _ | refine bal ?_ _)) hb1
  have hz : w.heap.size ≤ w1.heap.size := hB.size
  clear kl
  rcases hp with ⟨hno, rfl⟩ | ⟨hok, hnf, rfl⟩ | ⟨hok, hfi, rb, hrb, rfl, hR⟩
  · have HNO := Lib.hid hno
    clear hno
    go_wp2
    go_ret3
    exact ⟨.inl ⟨HNO.out, rfl⟩, hB⟩
  · have HNO := Lib.hid (And.intro hok hnf)
    clear hok hnf
    go_wp2
    go_ret3
    exact ⟨.inr (.inl ⟨HNO.out.1, HNO.out.2, rfl⟩), hB⟩
  · have HOK := Lib.hid hok
    have HFI := Lib.hid hfi
    obtain ⟨R, hRE⟩ : ∃ R : Nat, regs = R := ⟨regs.toNat, by have := hok.i1; have := hok.i2; omega⟩
    have hgR : g.length ≤ R := by have := hok.i2; have := hfi.len; omega
    have hR128 : R ≤ 128 := by have := hok.r1; omega
    clear hok
    subst hRE
    rw [Int.toNat_natCast] at hR ⊢
    obtain ⟨m, hm⟩ : ∃ m, (g.getD 0 []).length = m := ⟨_, rfl⟩
    have hrect := hfi.rect
    rw [hm] at hR hm0 hrect
    have HM := Lib.hid hm
    have HRE := Lib.hid hrect
    have HRG := Lib.hid (hR.rebase (Nat.zero_le _))
    clear hm hfi hR hrect
    have HSL := Lib.hid (startG_len (n := m) hgR)
    have HSR := Lib.hid (startG_rect (regs := R) HRE.out)
    have HSB := Lib.hid (startG_bd (regs := R) (n := m) HBD.out)
    have hzz : rb < w1.heap.size := HRG.out.free.1
    have hrb' : w.heap.size + 1 ≤ rb := by simpa using hrb
    have hne : ¬ w.heap.size = rb := by omega
    have HP := Lib.hid (show ∀ W, Out (fun k => k = rb) w1 W → W.cell? ⟨w.heap.size, 0, none⟩ = some (.int .i64 ins) ∧ W.cell? ⟨w.heap.size, 1, none⟩ = some (.int .i64 (R : Int)) ∧ W.cell? ⟨w.heap.size, 2, none⟩ = some (.slice ca code.length cc) ∧ W.cell? ⟨w.heap.size, 3, none⟩ = some (.slice oa outs.length oc) from fun W h => ⟨okeep h p0 hne, okeep h p1 hne, okeep h p2 hne, okeep h p3 hne⟩)
    have HB1 := Lib.hid hB
    have rx := fun W (k : Below w1.heap.size w1 W) => runR_c ins (R : Int) ca oa cc outs.length oc code (startG g R m) m K rb 82 #[] W (HC.out.1.keep (HB1.out.trans (k.mono HB1.out.size))) (fun n hn => by rw [HSL.out]; exact ins_of HOK.out hn) HOK.out.c1 (cs_of HOK.out) (by rw [HSL.out]; exact hR128) (HRG.out.keep k) HSR.out (by have := HFI.out.m; rw [HM.out] at this; omega) HSB.out hK toldR_c (ens Tryz.func82 (by kernel_rfl) rfl) (fun b off e hl e2 => by
      rcases HC.out.1 with h0 | ⟨b', off', h1, _, h3⟩
      · rw [h0] at hl; simp at hl
      · rw [e] at h1; cases h1
        have := cell_lt (h3 0 hl).c0
        omega)
    rw [HSL.out] at rx
    have hO1 := Out.refl (fun k => k = rb) w1
    have hBc := Below.refl w1.heap.size w1
    clear p0 p1 p2 p3 hB hrb
    obtain ⟨p0, p1, p2, p3⟩ := HP.out w1 hO1
    go_wp2
    go_region_held3 (fun w' => w'.cell? ⟨w.heap.size, 0, none⟩ = some (.int .i64 ins) ∧ w'.cell? ⟨w.heap.size, 1, none⟩ = some (.int .i64 (R : Int)) ∧ w'.cell? ⟨w.heap.size, 2, none⟩ = some (.slice ca code.length cc) ∧ w'.cell? ⟨w.heap.size, 3, none⟩ = some (.slice oa outs.length oc))
      (first | (refine HP.out _ ?_; refine hO1.below ?_; (repeat (first | exact Below.refl _ _ | exact hBc | refine Below.drew ?_ | refine below_drewN ?_ _ | refine bset ?_ (by simp <;> omega) _ | refine bal ?_ _)); done) | (refine HP.out _ ?_; (repeat (first | exact hO4 | refine Out.drew ?_ | refine Out.drewN ?_ _)); done) | fail)
      (first
        | (go_at_call 81; refine (rowsV_c _).mono ?_; rintro e w3 ⟨rfl, hb3⟩; (have hBd : Below w1.heap.size w1 w3 := bthen (by repeat (first | exact Below.refl _ _ | exact hBc | refine Below.drew ?_ | refine below_drewN ?_ _ | refine bset ?_ (by simp <;> omega) _ | refine bal ?_ _)) hb3; clear hBc; have hBc := hBd; clear hBd))
        | (go_at_call 80; refine (rx _ ?_).mono ?_; (repeat (first | exact Below.refl _ _ | exact hBc | refine Below.drew ?_ | refine below_drewN ?_ _ | refine bset ?_ (by simp <;> omega) _ | refine bal ?_ _)); rintro e w4 hr4; obtain ⟨⟨q, rfl, hres⟩, hO4'⟩ := runRRes hr4; have hO4 : Out (fun k => k = rb) w1 w4 := (Out.of_below _ (by repeat (first | exact Below.refl _ _ | exact hBc | refine Below.drew ?_ | refine below_drewN ?_ _ | refine bset ?_ (by simp <;> omega) _ | refine bal ?_ _))).trans hO4'; have HRES := Lib.hid hres; clear hres hr4 hO4')
        | fail)
    all_goals
      have hB4 : Below w.heap.size w w4 := HB1.out.trans (hO4.to_below (fun q hq _ e => by omega) HB1.out.size)
      clear rx hBc p0 p1 p2 p3
      rcases HRES.out with ⟨q1, s, h1, h2, h3, rfl⟩ | ⟨s, h1, rfl, h2⟩
      · have HH := Lib.hid (And.intro h2 h3)
        clear h2 h3
        go_wp2
        go_ret3
        exact ⟨.inr (.inr (.inl ⟨HOK.out, HFI.out, q1, s, h1, by rw [Int.toNat_natCast, HM.out]; exact HH.out.1, by rw [Int.toNat_natCast, HM.out]; exact HH.out.2, rfl⟩)), by repeat (first | exact Below.refl _ _ | exact hB4 | refine Below.drew ?_ | refine below_drewN ?_ _ | refine bset ?_ (by simp <;> omega) _ | refine bal ?_ _)⟩
      · have HH := Lib.hid (And.intro h1 h2)
        have hsl := (after_len h1).trans HSL.out
        have HA := Lib.hid (after_rect HSR.out HSL.out (fun n hn => by have := (ins_of HOK.out hn).a1; have := (ins_of HOK.out hn).a0; rw [Int.toNat_natCast] at *; omega) (Nat.le_refl _) h1)
        clear h1 h2
        obtain ⟨p0, p1, p2, p3⟩ := HP.out w4 hO4
        have HL := Lib.hid hsl
        clear hsl
        have hBw := Below.refl w4.heap.size w4
        go_wp2
        refine wp_name fun w5 hW5 => ?_
        have hb45 : Below w4.heap.size w4 w5 := by rw [hW5]; repeat (first | exact Below.refl _ _ | exact hBw | refine Below.drew ?_ | refine below_drewN ?_ _ | refine bset ?_ (by simp <;> omega) _ | refine bal ?_ _)
        clear hW5 p0 p1 p2 p3
        obtain ⟨p0, p1, p2, p3⟩ := HP.out w5 (hO4.below hb45)
        have hB5 := bthen hB4 hb45
        have HR5 := Lib.hid (HH.out.2.keep hb45)
        go_loopw [10, 32] (fun v x wr => ∃ k : Nat, k ≤ outs.length ∧ x = .int .i64 k ∧ Hid (∃ gs, gs.map (·.1) = outsG (outs.take k) s ∧ AscLH gs ∧ (∀ x ∈ gs, w5.heap.size ≤ x.2.1) ∧ OwnL 43 RowLH w5 wr v gs)) (fun _ x _ => outs.length - (intOf x).toNat)
        case atStart => exact ⟨0, Nat.zero_le _, rfl, Lib.hid ⟨[], rfl, fun i j hi => absurd hi (by simp), fun x hx => absurd hx (by simp), OwnL.nil _ _ (Below.refl _ _)⟩⟩
        case round =>
          obtain ⟨k, hk, rfl, hO⟩ := hrel
          obtain ⟨gs, hgs, hasc, hlo, hOw⟩ := hO.out
          have HGS := Lib.hid (And.intro hgs (And.intro hasc hlo))
          have HOW := Lib.hid hOw
          have hbr := hOw.bel
          have hBr := bthen hB5 hbr
          have hol := HOK.out.o2
          have hlen : gs.length = k := by have := congrArg List.length hgs; simp [outsG] at this; omega
          obtain ⟨va, vc, hv⟩ := hOw.ex
          rw [hlen] at hv
          subst hv
          have HLEN := Lib.hid hlen
          clear hlen hgs hasc hlo hOw
          by_cases hlt : k < outs.length
          · have hltI : (k : Int) < (outs.length : Int) := by omega
            obtain ⟨q1, q2⟩ := HOK.out.os k hlt
            rcases HC.out.2 with h0 | ⟨ob, off, rfl, hcap, hcell⟩
            · rw [h0] at hlt; simp at hlt
            have hc := bkeep hBr (hcell k hlt)
            have zob := cell_lt hc
            obtain ⟨r, hr⟩ : ∃ r : Nat, outs.getD k 0 = r := ⟨(outs.getD k 0).toNat, by omega⟩
            rw [hr] at hc q1 q2
            have hrl : r < R := by omega
            have hrl2 : r < s.length := by rw [HL.out]; exact hrl
            obtain ⟨u, hu, hrow⟩ := HR5.out.cell r hrl2
            have hu2 := bkeep hbr hu
            have zu := cell_lt hu2
            have hlr := HA.out r hrl2
            have kcl := fun W (h : Below wr.heap.size wr W) => cloneRow_c 0 u (s.getD r []) W ((hrow.keep lims_int hbr).keep lims_int h) (by rw [hlr]; omega)
            have HN := Lib.hid (show outsG (outs.take (k + 1)) s = outsG (outs.take k) s ++ [s.getD r []] by
              rw [List.take_succ_eq_append_getElem hlt]
              have e : outs[k] = r := by rw [← hr]; simp [hlt]
              unfold outsG; rw [List.map_append, List.map_singleton, e, Int.toNat_natCast])
            obtain ⟨L, hL⟩ : ∃ L, s.getD r [] = L := ⟨_, rfl⟩
            rw [hL] at hrow kcl HN hlr
            have HLR := Lib.hid hlr
            obtain ⟨ua, uc, rfl, -⟩ := hrow
            rw [HLR.out] at hu2 kcl
            clear hr hcell hu hL hlr
            go_wp2_with fail
            refine (kcl _ (Below.refl _ _)).mono ?_
            rintro e w6 ⟨⟨v6, rfl, hr6⟩, hb6⟩
            have HO6 := Lib.hid (HOW.out.below prs_rowLH hb6)
            obtain ⟨a6, c6, hv6⟩ := hr6.ex
            rw [HLR.out] at hv6
            subst hv6
            have HR6 := Lib.hid hr6
            clear hr6 kcl
            go_wp2_with (at_builtin; refine appL (y := (L, wr.heap.size, (rowBlk (.slice a6 m c6)).elim 0 (· + 1))) elRow prs_rowLH (by decide) (by rfl) (by rfl) (HO6.out.below prs_rowLH (bal (Below.refl _ _) _)) ⟨HR6.out.keep lims_int (bal (Below.refl _ _) _), rfl⟩ (by rfl) (by rfl) (cell_new rfl rfl) (by rw [HLEN.out]; omega) (by rw [HLEN.out]; unfold maxLen; omega) ?_)
            intro v' w8 hO8 hk8
            have HO8 := Lib.hid (show ∃ gs, gs.map (·.1) = outsG (outs.take (k + 1)) s ∧ AscLH gs ∧ (∀ x ∈ gs, w5.heap.size ≤ x.2.1) ∧ OwnL 43 RowLH w5 w8 v' gs from ⟨_, by rw [List.map_append, HGS.out.1, HN.out]; rfl, ascLH_snoc HGS.out.2.1 (fun i hi => by obtain ⟨_, _, e, _, vr⟩ := HOW.out.isL.view; obtain ⟨_, _, u, _, _, hp⟩ := vr i hi; exact hp.hi), fun x hx => by
              rcases List.mem_append.1 hx with h | h
              · exact HGS.out.2.2 x h
              · simp at h; subst h; exact hbr.size, hO8⟩)
            clear hO8 hk8
            go_wp2
            exact ⟨⟨k + 1, by omega, by go_num, HO8⟩, by simp [intOf]; omega⟩
          · obtain rfl : k = outs.length := by omega
            rw [List.take_length] at HGS
            have HFIN := Lib.hid (show OwnL 43 RowLH w wr (.slice va outs.length vc) gs from HOW.out.rebase hB5)
            go_wp2
            go_ret3
            exact ⟨.inr (.inr (.inr ⟨HOK.out, HFI.out, s, _, gs, by rw [Int.toNat_natCast, HM.out]; exact HH.out.1, rfl, HGS.out.1, HGS.out.2.1, fun x hx => Nat.le_trans hB5.size (HGS.out.2.2 x hx), HFIN.out⟩)), hBr⟩
theorem exRows_c (ins regs : Int) (ca oa : Option Addr) (cc oc : Nat) (code : List Ins) (outs : List Int) (vg : Value) (g : Grid) (K : Nat) (w : World) (hc : InsV w ca cc code) (ho : IntsV w oa oc outs) (hg : GridV w vg g) (hm0 : (g.getD 0 []).length ≤ 1099511627776) (hb : BdG K g) (hK : K ≤ 2147483648) :
    Calls Tryz.prog 45 #[.agg #[.int .i64 ins, .int .i64 regs, .slice ca code.length cc, .slice oa outs.length oc], vg] w (ExRowsPost ins regs code outs g w) :=
  (exRowsX_c ins regs ca oa cc oc code outs vg g K w hc ho hg hm0 hb hK).mono fun _ _ h => h.plain
end Go.Proofs.YtdllbdfchloijaaGreatDoor

/- exact: Steps: what its iterator tells. -/
namespace Go.Proofs.YtdllbdfchloijaaGreatDoor
open Num
open Go.ChangeShapes Go.WideShapes Go.ChangeAt Go.RowKit
set_option linter.unusedVariables false
set_option linter.unusedSimpArgs false
attribute [local go_sem ↓] Go.wp_at_zero Go.wp_at_succ
/-- what is told: the k-th row, in memory of its own -/
def AR (n0 : Nat) (T : Nat → List Int) (k : Nat) (args : Array Value) (X : World) : Prop := ∃ v base, args = #[.int .i64 (k : Int), v] ∧ n0 ≤ base ∧ RowO IsInt 50 base X v (T k)
/-- the block of what is told -/
def XsR (args : Array Value) (q : Nat) : Prop := ∃ v, args[1]? = some v ∧ rowBlk v = some q
theorem AR.cells {n0 : Nat} {T : Nat → List Int} {k q : Nat} {args : Array Value} {X : World} (h : AR n0 T k args X) (hq : XsR args q) : ∃ o, X.heap[q]? = some o ∧ o.isCells = true := by
  obtain ⟨v, base, rfl, _, hr⟩ := h
  obtain ⟨v', e, hb⟩ := hq
  simp at e
  subst e
  exact typ_cells (rowO_blk hr hb).2
theorem OutT.base {S X : Nat → Prop} {a b c : World} (k : Below a.heap.size a b) (h : OutT (fun q => S q ∨ X q) b c) (hx : ∀ q, X q → a.heap.size ≤ q) (hS : ∀ q, S q → q < a.heap.size) : OutT S a c := by
  refine ⟨⟨h.1.os.trans k.os, h.1.tape.trans k.tape, h.1.output.trans k.output, Nat.le_trans k.size h.1.size, fun q hq hs => (h.1.block q (Nat.lt_of_lt_of_le hq k.size) fun e => ?_).trans (k.block q hq)⟩, fun q hq hl => ?_⟩
  · rcases e with e | e
    · exact hs e
    · have := hx q e; omega
  · rw [h.2 q (.inl hq) (Nat.lt_of_lt_of_le hl k.size)]
    unfold typOf; rw [k.block q hl]
/-- what the iterator finds -/
structure StepsIn (n0 : Nat) (S0 : Nat → Prop) (pb xb : Nat) (ins regs : Int) (ca oa : Option Addr) (cc oc : Nat) (code : List Ins) (outs : List Int) (v : Value) (g : Grid) (W : World) : Prop where
  p0 : W.cell? ⟨pb, 0, none⟩ = some (.int .i64 ins)
  p1 : W.cell? ⟨pb, 1, none⟩ = some (.int .i64 regs)
  p2 : W.cell? ⟨pb, 2, none⟩ = some (.slice ca code.length cc)
  p3 : W.cell? ⟨pb, 3, none⟩ = some (.slice oa outs.length oc)
  x0 : W.cell? ⟨xb, 0, none⟩ = some v
  hc : InsV W ca cc code
  ho : IntsV W oa oc outs
  hv : GridV W v g
  hm : (g.getD 0 []).length ≤ 1099511627775
  lt : ∀ q, S0 q → q < n0
  le : n0 ≤ W.heap.size
  nc : ∀ b off, ca = some ⟨b, off, none⟩ → 0 < code.length → ¬ S0 b
section
variable {n0 : Nat} {S0 : Nat → Prop} {pb xb : Nat} {ins regs : Int} {ca oa : Option Addr} {cc oc : Nat} {code : List Ins} {outs : List Int} {v : Value} {g : Grid} {W W' : World}
theorem StepsIn.keep (h : StepsIn n0 S0 pb xb ins regs ca oa cc oc code outs v g W) (k : Below W.heap.size W W') : StepsIn n0 S0 pb xb ins regs ca oa cc oc code outs v g W' :=
  ⟨bkeep k h.p0, bkeep k h.p1, bkeep k h.p2, bkeep k h.p3, bkeep k h.x0, h.hc.keep k, h.ho.keep k, h.hv.keep (prs_row lims_int _ _) k, h.hm, h.lt, Nat.le_trans h.le k.size, h.nc⟩
end
end Go.Proofs.YtdllbdfchloijaaGreatDoor

/- exact: Widest. -/
namespace Go.Proofs.YtdllbdfchloijaaGreatDoor
open Num
open Go.ChangeShapes Go.WideShapes Go.ChangeAt Go.RowKit
set_option linter.unusedVariables false
set_option linter.unusedSimpArgs false
attribute [local go_sem ↓] Go.wp_at_zero Go.wp_at_succ
attribute [local go_sem] Oper.semAt_some
/-- a variable in memory that holds a number -/
def VarI (ub : Nat) (m : Int) (W : World) : Prop := typOf W ub = some 50 ∧ ∃ n a ln c, W.cell? ⟨ub, 0, none⟩ = some (.bool n) ∧ W.cell? ⟨ub, 1, none⟩ = some (.slice a ln c) ∧ W.frozen? ⟨ub, 0, none⟩ = false ∧ W.frozen? ⟨ub, 1, none⟩ = false ∧ IsInt W (.agg #[.bool n, .slice a ln c]) m
theorem VarI.keep {ub : Nat} {m : Int} {W V : World} (h : VarI ub m W) (k : Below W.heap.size W V) : VarI ub m V := by
  obtain ⟨ht, n, a, ln, c, h0, h1, f0, f1, hi⟩ := h
  exact ⟨typ_keep ht k, n, a, ln, c, bkeep k h0, bkeep k h1, bkeepf k h0 f0, bkeepf k h1 f1, hi.keep k⟩
theorem VarI.put {ub : Nat} {m z : Int} {W : World} {n : Bool} {a : Option Addr} {ln c : Nat} (h : VarI ub m W) (hi : IsInt W (.agg #[.bool n, .slice a ln c]) z) : VarI ub z ((W.setCell ⟨ub, 0, none⟩ (.bool n)).setCell ⟨ub, 1, none⟩ (.slice a ln c)) := by
  obtain ⟨ht, n', a', ln', c', h0, h1, f0, f1, _⟩ := h
  refine ⟨by rw [typ_set, typ_set]; exact ht, n, a, ln, c, cell_far (cell_here h0 _) (by simp) _, cell_here (cell_far h1 (by simp) _) _, ?_, ?_, hi.put2 h0 h1 _ _⟩
  · rw [World.frozen?_setCell, World.frozen?_setCell]; exact f0
  · rw [World.frozen?_setCell, World.frozen?_setCell]; exact f1
end Go.Proofs.YtdllbdfchloijaaGreatDoor

/- integer: Sum; row: Dot. -/
namespace Go.Proofs.YtdllbdfchloijaaGreatDoor
open Num
open Go.ChangeShapes Go.WideShapes Go.ChangeAt Go.RowKit
set_option linter.unusedVariables false
set_option linter.unusedSimpArgs false
attribute [local go_sem ↓] Go.wp_at_zero Go.wp_at_succ
/-- the sum of all -/
def sumL (l : List Int) : Int := l.foldl (· + ·) 0
theorem sumL_snoc (l : List Int) (x : Int) : sumL (l ++ [x]) = sumL l + x := by simp [sumL]
theorem sumL_take {l : List Int} {j : Nat} (hj : j < l.length) : sumL (l.take (j + 1)) = sumL (l.take j) + l.getD j 0 := by
  rw [List.take_succ_eq_append_getElem hj, sumL_snoc]; simp [hj]
theorem sumL_bd {l : List Int} {k : Nat} (h : ∀ j, Bd k (l.getD j 0)) : ∀ j, j ≤ l.length → Bd (k + j) (sumL (l.take j)) := by
  intro j
  induction j with
  | zero => intro _; exact bd_zero
  | succ j ih =>
    intro hj
    rw [sumL_take (by omega)]
    exact (Bd.add (ih (by omega)) ((h j).mono (by omega))).mono (by omega)
/-- the sum of the products -/
def dotL (a b : List Int) : Int := sumL (List.zipWith (fun x y => x * y) a b)
set_option maxRecDepth 100000 in
set_option maxHeartbeats 4000000 in
theorem sum_c (v : Value) (l : List Int) (k : Nat) (w : World) (hv : PRow 0 w v l) (hl : l.length ≤ 1099511627775) (hb : ∀ j, Bd k (l.getD j 0)) (hk : k + l.length ≤ 17179869184) :
    Calls Tryz.prog 111 #[v] w fun e w' => (∃ u, e = .returned u ∧ IsInt w' u (sumL l)) ∧ Below w.heap.size w w' := by
  have HV := Lib.hid hv
  have HBD := Lib.hid hb
  obtain ⟨va, vc, rfl, -⟩ := hv
  clear hb
  have hB := Below.refl w.heap.size w
  go_enter Tryz.func111, Tryz.ntmps111
  go_wp2
  refine wp_name fun w0 hW0 => ?_
  have hB0 : Below w.heap.size w w0 := by rw [hW0]; repeat (first | exact Below.refl _ _ | exact hB | refine Below.drew ?_ | refine below_drewN ?_ _ | refine bset ?_ (by simp <;> omega) _ | refine bal ?_ _)
  have HR0 := Lib.hid (show w0.cell? ⟨w.heap.size, 0, none⟩ = some (.bool false) ∧ w0.cell? ⟨w.heap.size, 1, none⟩ = some (.slice none 0 0) ∧ w0.frozen? ⟨w.heap.size, 0, none⟩ = false ∧ w0.frozen? ⟨w.heap.size, 1, none⟩ = false from by rw [hW0]; simp [go_sem])
  have HM0 := Lib.hid (show VarI (w.heap.size + 1) 0 w0 from by rw [hW0]; exact ⟨typ_fresh (by simp), false, none, 0, 0, by simp [go_sem], by simp [go_sem], by simp [go_sem], by simp [go_sem], isInt_zero _⟩)
  clear hW0
  go_loopw [8] (fun x wr => ∃ j : Nat, j ≤ l.length ∧ x = .int .i64 j ∧ Below w.heap.size w wr ∧ Hid (wr.cell? ⟨w.heap.size, 0, none⟩ = some (.bool false) ∧ wr.cell? ⟨w.heap.size, 1, none⟩ = some (.slice none 0 0) ∧ wr.frozen? ⟨w.heap.size, 0, none⟩ = false ∧ wr.frozen? ⟨w.heap.size, 1, none⟩ = false) ∧ Hid (VarI (w.heap.size + 1) (sumL (l.take j)) wr)) (fun x _ => l.length - (intOf x).toNat)
  case atStart => exact ⟨0, Nat.zero_le _, rfl, hB0, HR0, HM0⟩
  case round =>
    obtain ⟨j, hj, rfl, hBr, HR, hM⟩ := hrel
    obtain ⟨-, n0, a0, ln0, c0, m0, m1, m0f, m1f, hi0⟩ := hM.out
    obtain ⟨r0, r1, r0f, r1f⟩ := HR.out
    have HI0 := Lib.hid hi0
    have zm := cell_lt m0
    have zr := cell_lt r0
    have HR' := HR
    clear hi0 HR
    by_cases hlt : j < l.length
    · have hltI : (j : Int) < (l.length : Int) := by omega
      obtain ⟨a', c', he, -, vr⟩ := (HV.out.keep lims_int hBr).view
      obtain ⟨rfl, -, rfl⟩ := Value.slice.inj he
      obtain ⟨b, off, n2, a2, l2, cc2, rfl, d0, d1, hi⟩ := vr j hlt
      have HW := Lib.hid (sumL_take hlt)
      have bs := sumL_bd HBD.out j (by omega)
      have bj := (HBD.out j).mono (show k ≤ k + j by omega)
      obtain ⟨x, hx⟩ : ∃ x, l.getD j 0 = x := ⟨_, rfl⟩
      rw [hx] at hi HW bj
      obtain ⟨m, hm⟩ : ∃ m, sumL (l.take j) = m := ⟨_, rfl⟩
      rw [hm] at HI0 HW hM bs
      have zd := cell_lt d0
      have ac := fun W (h : Below wr.heap.size wr W) => addI_c _ _ m x (k + j) W (HI0.out.keep h) (hi.keep h) bs bj (by omega)
      clear hx hm he vr hi
      have hBw := Below.refl wr.heap.size wr
      go_wp2_with fail
      refine (ac _ (by repeat (first | exact Below.refl _ _ | exact hBw | refine Below.drew ?_ | refine below_drewN ?_ _ | refine bset ?_ (by simp <;> omega) _ | refine bal ?_ _))).mono ?_
      rintro e w2 ⟨⟨u, rfl, hu⟩, hb2⟩
      have hb2' : Below wr.heap.size wr w2 := bthen (by repeat (first | exact Below.refl _ _ | exact hBw | refine Below.drew ?_ | refine below_drewN ?_ _ | refine bset ?_ (by simp <;> omega) _ | refine bal ?_ _)) hb2
      have HU := Lib.hid hu
      obtain ⟨nu, au, cu, lu, rfl, -⟩ := hu
      unfold iv at *
      have HV2 := Lib.hid ((hM.out.keep hb2').put HU.out)
      replace r0f := bkeepf hb2' r0 r0f
      replace r1f := bkeepf hb2' r1 r1f
      replace m0f := bkeepf hb2' m0 m0f
      replace m1f := bkeepf hb2' m1 m1f
      replace r0 := bkeep hb2' r0
      replace r1 := bkeep hb2' r1
      replace m0 := bkeep hb2' m0
      replace m1 := bkeep hb2' m1
      have hB2 := bthen hBr hb2'
      clear ac d0 d1 bs bj hb2
      go_wp2
      refine ⟨⟨j + 1, by omega, by go_num, bset (bset hB2 (by show w.heap.size ≤ w.heap.size + 1; omega) _) (by show w.heap.size ≤ w.heap.size + 1; omega) _, Lib.hid ⟨cell_far (cell_far r0 (addr_ne (by omega)) _) (addr_ne (by omega)) _, cell_far (cell_far r1 (addr_ne (by omega)) _) (addr_ne (by omega)) _, ?_, ?_⟩, Lib.hid (by rw [HW.out]; exact HV2.out)⟩, by simp [intOf]; omega⟩
      · rw [World.frozen?_setCell, World.frozen?_setCell]; exact r0f
      · rw [World.frozen?_setCell, World.frozen?_setCell]; exact r1f
    · obtain rfl : j = l.length := by omega
      rw [List.take_length] at HI0
      have hp := Lib.hid (HI0.out.put2 r0 r1)
      go_wp2
      refine bodyPost_ret (v := .agg #[.bool n0, .slice a0 ln0 c0]) (by simp [results, Tryz.results111, go_sem, *]) rfl ⟨⟨_, rfl, hp.out _ _⟩, ?_⟩
      repeat (first | exact Below.refl _ _ | exact hBr | refine Below.drew ?_ | refine below_drewN ?_ _ | refine bset ?_ (by simp <;> omega) _ | refine bal ?_ _)
theorem zip_bd {la lb : List Int} {k m : Nat} (ba : ∀ j, Bd k (la.getD j 0)) (bb : ∀ j, Bd m (lb.getD j 0)) : ∀ j, Bd (k + m) ((List.zipWith (fun x y => x * y) la lb).getD j 0) := fun j => by
  by_cases h : j < la.length ∧ j < lb.length
  · rw [zip_getD h.1 h.2]; exact Bd.mul (ba j) (bb j)
  · rw [List.getD_eq_getElem?_getD, List.getElem?_eq_none (by simp; omega)]; exact bd_zero
set_option maxRecDepth 100000 in
set_option maxHeartbeats 2000000 in
theorem dot_c (va vb : Value) (la lb : List Int) (k m : Nat) (w : World) (ha : PRow 0 w va la) (hb : PRow 0 w vb lb) (hl : la.length ≤ 1099511627775) (he : la.length = lb.length) (ba : ∀ j, Bd k (la.getD j 0)) (bb : ∀ j, Bd m (lb.getD j 0)) (hk : k + m + la.length ≤ 17179869184) :
    Calls Tryz.prog 71 #[va, vb] w fun e w' => (∃ u, e = .returned (.tuple #[u, .int .i64 0]) ∧ IsInt w' u (dotL la lb)) ∧ Below w.heap.size w w' := by
  have eF : Enters Tryz.prog 57 := ens Tryz.func57 (by kernel_rfl) rfl
  have hz : (List.zipWith (fun x y => x * y) la lb).length = la.length := by rw [List.length_zipWith]; omega
  have bc := fun W (hB : Below w.heap.size w W) => both_yes va vb la lb (List.zipWith (fun x y => x * y) la lb) 57 #[] #[] W (ha.keep lims_int hB) (hb.keep lims_int hB) hl he hz eF (fun j W1 u1 u2 hj _ h1 h2 => by
    have hc := mul_c u1 u2 (la.getD j 0) (lb.getD j 0) k m W1 h1 h2 (ba j) (bb j) (by omega) (by omega)
    rw [zip_getD hj (by omega)]
    exact hc)
  have HBC := Lib.hid bc
  have HZB := Lib.hid (zip_bd ba bb)
  have HZ := Lib.hid hz
  obtain ⟨aa, ca, rfl, -⟩ := ha
  obtain ⟨ab, cb, rfl, -⟩ := hb
  obtain ⟨L, hL⟩ : ∃ L, List.zipWith (fun x y => x * y) la lb = L := ⟨_, rfl⟩
  unfold dotL
  rw [hL] at HBC HZB HZ ⊢
  clear bc hz eF ba bb he hL
  have hB := Below.refl w.heap.size w
  go_enter Tryz.func71, Tryz.ntmps71
  go_wp2_with fail
  refine (HBC.out _ (by repeat (first | exact Below.refl _ _ | exact hB | refine Below.drew ?_ | refine below_drewN ?_ _ | refine bset ?_ (by simp <;> omega) _ | refine bal ?_ _))).mono ?_
  rintro e w1 ⟨⟨u, rfl, hu⟩, hb1⟩
  have r0 : w1.cell? ⟨w.heap.size, 0, none⟩ = some (.bool false) := bkc hb1
  have zr0 := cell_lt r0
  have r0f : w1.frozen? ⟨w.heap.size, 0, none⟩ = false := bkcf (v := .bool false) hb1
  have r1 : w1.cell? ⟨w.heap.size, 1, none⟩ = some (.slice none 0 0) := bkc hb1
  have r1f : w1.frozen? ⟨w.heap.size, 1, none⟩ = false := bkcf (v := .slice none 0 0) hb1
  have hB : Below w.heap.size w w1 := bthen (by repeat (first | exact Below.refl _ _ | exact hB | refine Below.drew ?_ | refine below_drewN ?_ _ | refine bset ?_ (by simp <;> omega) _ | refine bal ?_ _)) hb1
  have hz : w.heap.size ≤ w1.heap.size := hB.size
  have sc := fun W (h : Below w1.heap.size w1 W) => sum_c u L (k + m) W ((hu.row.rebase (Nat.zero_le _)).keep lims_int h) (by rw [HZ.out]; omega) HZB.out (by rw [HZ.out]; omega)
  obtain ⟨ua, un, uc, rfl⟩ : ∃ a n c, u = Value.slice a n c := by obtain ⟨a, c, h⟩ := hu.ex; exact ⟨a, _, c, h⟩
  have hw1 := Below.refl w1.heap.size w1
  clear HBC hu
  go_wp2_with fail
  refine (sc _ (by repeat (first | exact Below.refl _ _ | exact hw1 | refine Below.drew ?_ | refine below_drewN ?_ _ | refine bset ?_ (by simp <;> omega) _ | refine bal ?_ _))).mono ?_
  rintro e w2 ⟨⟨u2, rfl, hu2⟩, hb2⟩
  have r0 : w2.cell? ⟨w.heap.size, 0, none⟩ = some (.bool false) := bkc hb2
  have zr0 := cell_lt r0
  have r0f : w2.frozen? ⟨w.heap.size, 0, none⟩ = false := bkcf (v := .bool false) hb2
  have r1 : w2.cell? ⟨w.heap.size, 1, none⟩ = some (.slice none 0 0) := bkc hb2
  have r1f : w2.frozen? ⟨w.heap.size, 1, none⟩ = false := bkcf (v := .slice none 0 0) hb2
  have hB : Below w.heap.size w w2 := bthen (by repeat (first | exact Below.refl _ _ | exact hB | refine Below.drew ?_ | refine below_drewN ?_ _ | refine bset ?_ (by simp <;> omega) _ | refine bal ?_ _)) hb2
  have hz : w.heap.size ≤ w2.heap.size := hB.size
  have hp := Lib.hid (hu2.put2 r0 r1)
  obtain ⟨n2, a2, c2, l2, rfl, -⟩ := hu2
  unfold iv at *
  clear sc
  go_wp2
  refine bodyPost_ret (v := .tuple #[.agg #[.bool n2, .slice a2 l2.length c2], .int .i64 0]) (by simp [results, Tryz.results71, go_sem, *]) rfl ⟨⟨_, rfl, hp.out _ _⟩, ?_⟩
  repeat (first | exact Below.refl _ _ | exact hB | refine Below.drew ?_ | refine below_drewN ?_ _ | refine bset ?_ (by simp <;> omega) _ | refine bal ?_ _)
end Go.Proofs.YtdllbdfchloijaaGreatDoor

/- matrix: matrices as values; filled. -/
namespace Go.Proofs.YtdllbdfchloijaaGreatDoor
open Num
open Go.ChangeShapes Go.WideShapes Go.ChangeAt Go.RowKit
set_option linter.unusedVariables false
set_option linter.unusedSimpArgs false
attribute [local go_sem ↓] Go.wp_at_zero Go.wp_at_succ
/-- a table of numbers -/
def tab (n m : Nat) (f : Nat → Nat → Int) : Grid := (List.range n).map fun i => (List.range m).map (f i)
theorem tab_len (n m : Nat) (f : Nat → Nat → Int) : (tab n m f).length = n := by simp [tab]
theorem tab_row {n m : Nat} {f : Nat → Nat → Int} {i : Nat} (h : i < n) : (tab n m f).getD i [] = (List.range m).map (f i) := by simp [tab, h]
theorem tab_rowlen {n m : Nat} {f : Nat → Nat → Int} {i : Nat} (h : i < n) : ((tab n m f).getD i []).length = m := by rw [tab_row h]; simp
theorem tab_at {n m : Nat} {f : Nat → Nat → Int} {i j : Nat} (h : i < n) (hj : j < m) : ((tab n m f).getD i []).getD j 0 = f i j := by rw [tab_row h]; simp [hj]
/-- a matrix as a value: its rows lie in blocks from base on -/
def IsM (base : Nat) (w : World) (v : Value) (g : Grid) : Prop := ∃ a c, v = .agg #[.slice a g.length c] ∧ IsL 43 (PRow base) base w (.slice a g.length c) g
theorem prs_prow (base : Nat) : Prs (fun t => t = 106 ∨ t = 50) (PRow base) := prs_row lims_int _ _
theorem IsM.keep {base : Nat} {w w' : World} {v : Value} {g : Grid} (h : IsM base w v g) (k : Below w.heap.size w w') : IsM base w' v g := by
  obtain ⟨a, c, e, h⟩ := h; exact ⟨a, c, e, h.keep (prs_prow base) k⟩
theorem IsM.rebase {base base' : Nat} {w : World} {v : Value} {g : Grid} (h : IsM base w v g) (hb : base' ≤ base) : IsM base' w v g := by
  obtain ⟨a, c, e, h⟩ := h; exact ⟨a, c, e, (h.rebase hb).mono fun u x hx => hx.rebase hb⟩
theorem IsM.nil (base : Nat) (w : World) : IsM base w (.agg #[.slice none 0 0]) [] := ⟨none, 0, rfl, IsL.nil _ _ _ _⟩
/-- a function value that tells the number at a place -/
def FnF (f : Nat → Nat → Int) (n m F : Nat) (caps : Array Value) (w : World) : Prop :=
  ∀ W i j, i < n → j < m → Below w.heap.size w W → Calls Tryz.prog F (#[.int .i64 (i : Nat), .int .i64 (j : Nat)] ++ caps) W fun e w' => (∃ v, e = .returned v ∧ IsInt w' v (f i j)) ∧ Below W.heap.size W w'
theorem typ_alloc {w : World} {o : Obj} {b : Nat} {t : TypeId} (h : typOf w b = some t) : typOf (w.alloc o) b = some t := typ_keep h (bal (Below.refl _ _) _)
end Go.Proofs.YtdllbdfchloijaaGreatDoor

/- matrix: Rows, Cols, square, Identity; a matrix in a variable. -/
namespace Go.Proofs.YtdllbdfchloijaaGreatDoor
open Num
open Go.ChangeShapes Go.WideShapes Go.ChangeAt Go.RowKit
set_option linter.unusedVariables false
set_option linter.unusedSimpArgs false
attribute [local go_sem ↓] Go.wp_at_zero Go.wp_at_succ
/-- the number at a place -/
def gat (g : Grid) (i j : Nat) : Int := (g.getD i []).getD j 0
/-- how many columns -/
def cols (g : Grid) : Nat := (g.getD 0 []).length
/-- rows of one length -/
def Rct (g : Grid) (m : Nat) : Prop := ∀ i, i < g.length → (g.getD i []).length = m
theorem tab_gat {n m : Nat} {f : Nat → Nat → Int} {i j : Nat} (h : i < n) (hj : j < m) : gat (tab n m f) i j = f i j := tab_at h hj
theorem tab_rect (n m : Nat) (f : Nat → Nat → Int) : Rct (tab n m f) m := fun i hi => by rw [tab_len] at hi; exact tab_rowlen hi
theorem tab_cols {n m : Nat} (f : Nat → Nat → Int) (h : 0 < n) : cols (tab n m f) = m := tab_rowlen h
theorem Rct.cols {g : Grid} {m : Nat} (h : Rct g m) (hg : 0 < g.length) : cols g = m := h 0 hg
theorem IsM.lit {base : Nat} {w : World} {v : Value} {g : Grid} (h : IsM base w v g) : ∃ a c, v = .agg #[.slice a g.length c] := by obtain ⟨a, c, e, _⟩ := h; exact ⟨a, c, e⟩
/-- a matrix in a variable -/
def BoxM (b : Nat) (w : World) (g : Grid) : Prop := ∃ a c, w.cell? ⟨b, 0, none⟩ = some (.slice a g.length c) ∧ IsL 43 (PRow 0) 0 w (.slice a g.length c) g
theorem BoxM.keep {b : Nat} {w w' : World} {g : Grid} (h : BoxM b w g) (k : Below w.heap.size w w') : BoxM b w' g := by
  obtain ⟨a, c, e, h⟩ := h; exact ⟨a, c, bkeep k e, h.keep (prs_prow 0) k⟩
theorem IsL.row {base : Nat} {w : World} {v : Value} {g : Grid} (h : IsL 43 (PRow base) base w v g) {i : Nat} (hi : i < g.length) :
    ∃ c gb go ra rc, v = .slice (some ⟨gb, go, none⟩) g.length c ∧ w.cell? ⟨gb, go + i, none⟩ = some (.slice ra (g.getD i []).length rc) ∧ PRow base w (.slice ra (g.getD i []).length rc) (g.getD i []) := by
  obtain ⟨a, c, e, _, hv⟩ := h.view
  obtain ⟨gb, go, u, rfl, hu, hr⟩ := hv i hi
  have e2 : g[i] = g.getD i [] := by simp [hi]
  rw [e2] at hr
  have hr2 := hr
  obtain ⟨ra, rc, rfl, _⟩ := hr2
  exact ⟨c, gb, go, ra, rc, e, hu, hr⟩
theorem BoxM.row {b : Nat} {w : World} {g : Grid} (h : BoxM b w g) {i : Nat} (hi : i < g.length) :
    ∃ c gb go ra rc, w.cell? ⟨b, 0, none⟩ = some (.slice (some ⟨gb, go, none⟩) g.length c) ∧ w.cell? ⟨gb, go + i, none⟩ = some (.slice ra (g.getD i []).length rc) ∧ PRow 0 w (.slice ra (g.getD i []).length rc) (g.getD i []) := by
  obtain ⟨a, c, e, h⟩ := h
  obtain ⟨c', gb, go, ra, rc, e2, hu, hp⟩ := h.row hi
  obtain ⟨rfl, -, rfl⟩ := Value.slice.inj e2
  exact ⟨c, gb, go, ra, rc, e, hu, hp⟩
set_option maxRecDepth 100000 in
set_option maxHeartbeats 1000000 in
theorem colsM_c (a : Option Addr) (c : Nat) (g : Grid) (w : World) (h : IsL 43 (PRow 0) 0 w (.slice a g.length c) g) : Calls Tryz.prog 70 #[.agg #[.slice a g.length c]] w fun e w' => e = .returned (.int .i64 (cols g : Nat)) ∧ Below w.heap.size w w' := by
  have hB := Below.refl w.heap.size w
  by_cases h0 : g.length = 0
  · have hg : g = [] := List.length_eq_zero_iff.1 h0
    subst hg
    have e : cols [] = 0 := rfl
    rw [e]
    clear h e h0
    rw [show ([] : Grid).length = 0 from rfl]
    go_enter Tryz.func70, Tryz.ntmps70
    go_wp2
    go_ret
    exact ⟨rfl, by repeat (first | exact Below.refl _ _ | exact hB | refine Below.drew ?_ | refine below_drewN ?_ _ | refine bset ?_ (by simp <;> omega) _ | refine bal ?_ _)⟩
  · obtain ⟨c', gb, go, ra, rc, e, hu, hp⟩ := h.row (show 0 < g.length by omega)
    obtain ⟨rfl, -, rfl⟩ := Value.slice.inj e
    rw [Nat.add_zero] at hu
    have zu := cell_lt hu
    have zu2 : gb < w.heap.size + 1 := by omega
    unfold cols
    obtain ⟨m, hm⟩ : ∃ m, (g.getD 0 []).length = m := ⟨_, rfl⟩
    obtain ⟨n, hn⟩ : ∃ n, g.length = n := ⟨_, rfl⟩
    rw [hm] at hu ⊢
    rw [hn] at h0 ⊢
    have hn0 : ((n : Int) == 0) = false := by simp; omega
    have hn1 : (0 : Int) < (n : Int) := by omega
    clear h hp e hm hn
    go_enter Tryz.func70, Tryz.ntmps70
    go_wp2
    go_ret
    exact ⟨rfl, by repeat (first | exact Below.refl _ _ | exact hB | refine Below.drew ?_ | refine below_drewN ?_ _ | refine bset ?_ (by simp <;> omega) _ | refine bal ?_ _)⟩
theorem IsM.setM {base : Nat} {w : World} {v : Value} {g : Grid} (h : IsM base w v g) {p : Addr} (ht : typOf w p.block = some 73) (u : Value) : IsM base (w.setCell p u) v g := by
  obtain ⟨a, c, e, h⟩ := h
  exact ⟨a, c, e, IsL.kp (S' := fun t => t ≠ 73) (prs_prow base) h ((Kp.refl _ _).set (fun t ht' => by rw [ht] at ht'; cases ht'; exact fun h => h rfl) _) (fun t ht => by rcases ht with rfl | rfl <;> decide) (by decide)⟩
end Go.Proofs.YtdllbdfchloijaaGreatDoor

/- matrix: Plus, Scale, Turn, Times. -/
namespace Go.Proofs.YtdllbdfchloijaaGreatDoor
open Num
open Go.ChangeShapes Go.WideShapes Go.ChangeAt Go.RowKit
set_option linter.unusedVariables false
set_option linter.unusedSimpArgs false
attribute [local go_sem ↓] Go.wp_at_zero Go.wp_at_succ
/-- numbers of so many bits -/
def BdM (k : Nat) (g : Grid) : Prop := ∀ i j, Bd k (gat g i j)
theorem BdM.mono {k m : Nat} {g : Grid} (h : BdM k g) (hk : k ≤ m) : BdM m g := fun i j => (h i j).mono hk
theorem tab_out {n m : Nat} {f : Nat → Nat → Int} {i j : Nat} (h : ¬ (i < n ∧ j < m)) : gat (tab n m f) i j = 0 := by
  unfold gat tab
  by_cases hi : i < n
  · have hj : m ≤ j := Nat.le_of_not_lt fun hj => h ⟨hi, hj⟩
    simp [hi, hj]
  · have : n ≤ i := Nat.le_of_not_lt hi
    have e : ((List.range n).map fun i => (List.range m).map (f i))[i]? = none := List.getElem?_eq_none (by simpa using this)
    simp only [List.getD_eq_getElem?_getD, e]; rfl
theorem tab_bd {n m k : Nat} {f : Nat → Nat → Int} (h : ∀ i j, i < n → j < m → Bd k (f i j)) : BdM k (tab n m f) := fun i j => by
  by_cases hh : i < n ∧ j < m
  · rw [tab_gat hh.1 hh.2]; exact h i j hh.1 hh.2
  · rw [tab_out hh]; exact bd_zero
theorem FnF.mono {f : Nat → Nat → Int} {n m F : Nat} {caps : Array Value} {w w' : World} (h : FnF f n m F caps w) (k : Below w.heap.size w w') : FnF f n m F caps w' := fun W i j hi hj q => h W i j hi hj (bthen k q)
end Go.Proofs.YtdllbdfchloijaaGreatDoor

/- matrix: Scale, Turn. -/
namespace Go.Proofs.YtdllbdfchloijaaGreatDoor
open Num
open Go.ChangeShapes Go.WideShapes Go.ChangeAt Go.RowKit
set_option linter.unusedVariables false
set_option linter.unusedSimpArgs false
attribute [local go_sem ↓] Go.wp_at_zero Go.wp_at_succ
end Go.Proofs.YtdllbdfchloijaaGreatDoor

/- matrix: Times. -/
namespace Go.Proofs.YtdllbdfchloijaaGreatDoor
open Num
open Go.ChangeShapes Go.WideShapes Go.ChangeAt Go.RowKit
set_option linter.unusedVariables false
set_option linter.unusedSimpArgs false
attribute [local go_sem ↓] Go.wp_at_zero Go.wp_at_succ
theorem isum_bd {k : Nat} {f : Nat → Int} (h : ∀ i, Bd k (f i)) : ∀ n, Bd (k + n) (Det.isum n f)
  | 0 => bd_zero
  | n + 1 => (Bd.add (isum_bd h n) ((h n).mono (by omega))).mono (by omega)
end Go.Proofs.YtdllbdfchloijaaGreatDoor

/- matrix: Times, square, New. -/
namespace Go.Proofs.YtdllbdfchloijaaGreatDoor
open Num
open Go.ChangeShapes Go.WideShapes Go.ChangeAt Go.RowKit
set_option linter.unusedVariables false
set_option linter.unusedSimpArgs false
attribute [local go_sem ↓] Go.wp_at_zero Go.wp_at_succ
end Go.Proofs.YtdllbdfchloijaaGreatDoor

/- integer: Abs's value; Gcd. -/
namespace Go.Proofs.YtdllbdfchloijaaGreatDoor
open Num
open Go.ChangeShapes Go.WideShapes Go.ChangeAt Go.RowKit
set_option linter.unusedVariables false
set_option linter.unusedSimpArgs false
attribute [local go_sem ↓] Go.wp_at_zero Go.wp_at_succ
theorem typ_drew (w : World) (b : Nat) : typOf w.drew b = typOf w b := rfl
theorem VarI.far {ub vb : Nat} {z m : Int} {W : World} (h : VarI ub m W) (k : VarI vb z W) (hne : ub ≠ vb) (x : Bool) (y : Option Addr) (p q : Nat) : VarI ub m ((W.setCell ⟨vb, 0, none⟩ (.bool x)).setCell ⟨vb, 1, none⟩ (.slice y p q)) := by
  obtain ⟨ht, n, a, ln, c, h0, h1, f0, f1, hi⟩ := h
  obtain ⟨-, n', a', ln', c', k0, k1, -, -, -⟩ := k
  exact ⟨by rw [typ_set, typ_set]; exact ht, n, a, ln, c, cell_far (cell_far h0 (addr_ne (Ne.symm hne)) _) (addr_ne (Ne.symm hne)) _, cell_far (cell_far h1 (addr_ne (Ne.symm hne)) _) (addr_ne (Ne.symm hne)) _, by rw [World.frozen?_setCell, World.frozen?_setCell]; exact f0, by rw [World.frozen?_setCell, World.frozen?_setCell]; exact f1, hi.put2 k0 k1 _ _⟩
end Go.Proofs.YtdllbdfchloijaaGreatDoor

/- row: Text; matrix: Text. -/
namespace Go.Proofs.YtdllbdfchloijaaGreatDoor
open Num
open Go.ChangeShapes Go.WideShapes Go.ChangeAt Go.RowKit
set_option linter.unusedVariables false
set_option linter.unusedSimpArgs false
attribute [local go_sem ↓] Go.wp_at_zero Go.wp_at_succ
end Go.Proofs.YtdllbdfchloijaaGreatDoor

