/- Texts of this seat, laid together: ExJ, ExN, ExO, RtF, EwK. Each opens with its own remark, which says what it proves, and under which conditions. -/
import Derived.Test.YtannhpadoooedaaGreatDoorQ11
import Derived.Test.YtannhpadoooedaaGreatDoorQ08
import Derived.Test.YtannhpadoooedaaGreatDoorQ12
import Derived.Test.YtannhpadoooedaaGreatDoorQ10
import Derived.Shelf.RegionOpen
import Derived.Deep.RegionLaw
import Derived.Test.YtannhpadoooedaaGreatDoorQ09
import Derived.Test.YtannhpadoooedaaGreatDoorQ05
set_option linter.unusedVariables false
set_option linter.unusedSimpArgs false
/- exact: Rows, Judge. -/
namespace Go.Proofs.YtannhpadoooedaaGreatDoor
open Num
open Go.ChangeShapes Go.WideShapes Go.ChangeAt Go.RowKit
set_option linter.unusedVariables false
set_option linter.unusedSimpArgs false
attribute [local go_sem ↓] Go.wp_at_zero Go.wp_at_succ
/-- run's answer, an int -/
theorem runRRes {code : List Ins} {g : Grid} {rb : Nat} {w : World} {e : Ending} {w' : World} (h : RunRPost code g rb w e w') : (∃ q : Int, e = .returned (.int .i64 q) ∧ ((∃ (m : Nat) (s : Grid), m < code.length ∧ after code g m = some s ∧ after code g (m + 1) = none ∧ q = m) ∨ (∃ s, after code g code.length = some s ∧ q = -1 ∧ RegsP 0 w' rb s))) ∧ Out (fun k => k = rb) w w' := by
  obtain ⟨h, hO⟩ := h
  refine ⟨?_, hO⟩
  rcases h with ⟨m, s, h1, h2, h3, rfl⟩ | ⟨s, h1, rfl, h2⟩
  · exact ⟨_, rfl, .inl ⟨m, s, h1, h2, h3, rfl⟩⟩
  · exact ⟨_, rfl, .inr ⟨s, h1, rfl, h2⟩⟩
/-- a row of the call's own, in a block from lo on; behind which block the next may lie -/
def RowLH (w : World) (v : Value) (x : List Int × Nat × Nat) : Prop := RowO IsInt 48 x.2.1 w v x.1 ∧ x.2.2 = (rowBlk v).elim 0 (· + 1)
theorem prs_rowLH : Prs (fun t => t = 137 ∨ t = 48) RowLH :=
  ⟨fun h => (prs_rowO lims_int _ _).one h.1, fun h k => ⟨(prs_rowO lims_int _ _).kp h.1 k, h.2⟩⟩
/-- rows in blocks that lie one behind the other -/
def AscLH (gs : List (List Int × Nat × Nat)) : Prop := ∀ i j (hi : i < gs.length) (hj : j < gs.length), i < j → gs[i].2.2 ≤ gs[j].2.1
theorem RowLH.hi {w : World} {v : Value} {x : List Int × Nat × Nat} (h : RowLH w v x) : x.2.2 ≤ w.heap.size := by
  rw [h.2]
  cases e : rowBlk v with
  | none => exact Nat.zero_le _
  | some b => exact typ_lt (rowO_blk h.1 e).2
theorem OwnL.mapd {α β : Type} {T : TypeId} {Pr : World → Value → α → Prop} {Pr' : World → Value → β → Prop} {w0 wr : World} {v : Value} {g : List α} (f : α → β) (h : OwnL T Pr w0 wr v g) (hf : ∀ u x, x ∈ g → Pr wr u x → Pr' wr u (f x)) : OwnL T Pr' w0 wr v (g.map f) := by
  obtain ⟨xs, h1, h2⟩ := h
  refine ⟨xs, by rw [List.length_map]; exact h1, fun k hk => ?_⟩
  rw [List.length_map] at hk
  obtain ⟨u, hu, hp⟩ := h2 k hk
  exact ⟨u, hu, by rw [List.getElem_map]; exact hf _ _ (List.getElem_mem hk) hp⟩
theorem ascLH_snoc {gs : List (List Int × Nat × Nat)} {x : List Int × Nat × Nat} (h : AscLH gs) (hx : ∀ i (hi : i < gs.length), gs[i].2.2 ≤ x.2.1) : AscLH (gs ++ [x]) := by
  intro i j hi hj hij
  simp at hi hj
  have hi' : i < gs.length := by omega
  rw [List.getElem_append_left hi']
  by_cases e : j < gs.length
  · rw [List.getElem_append_left e]; exact h i j hi' e hij
  · rw [List.getElem_append_right (by omega)]
    have : j - gs.length = 0 := by omega
    simp [this]; exact hx i hi'
/-- what Rows answers -/
def ExRowsPost (ins regs : Int) (code : List Ins) (outs : List Int) (g : Grid) (w : World) (e : Ending) (w' : World) : Prop :=
  ((¬ ProgOk ins regs code outs ∧ e = .returned (.tuple #[.slice none 0 0, .int .i64 0, .int .i64 80])) ∨
   (ProgOk ins regs code outs ∧ ¬ FitsG ins g ∧ e = .returned (.tuple #[.slice none 0 0, .int .i64 0, .int .i64 5])) ∨
   (ProgOk ins regs code outs ∧ FitsG ins g ∧ ∃ (k : Nat) (h : Grid), k < code.length ∧ after code (startG g regs.toNat (g.getD 0 []).length) k = some h ∧ after code (startG g regs.toNat (g.getD 0 []).length) (k + 1) = none ∧ e = .returned (.tuple #[.slice none 0 0, .int .i64 k, .int .i64 20])) ∨
   (ProgOk ins regs code outs ∧ FitsG ins g ∧ ∃ (h : Grid) (v : Value), after code (startG g regs.toNat (g.getD 0 []).length) code.length = some h ∧ e = .returned (.tuple #[v, .int .i64 0, .int .i64 0]) ∧ OwnL 29 (RowO IsInt 48 w.heap.size) w w' v (outsG outs h))) ∧ Below w.heap.size w w'
/-- the same; its rows lie one behind the other -/
def ExRowsPostX (ins regs : Int) (code : List Ins) (outs : List Int) (g : Grid) (w : World) (e : Ending) (w' : World) : Prop :=
  ((¬ ProgOk ins regs code outs ∧ e = .returned (.tuple #[.slice none 0 0, .int .i64 0, .int .i64 80])) ∨
   (ProgOk ins regs code outs ∧ ¬ FitsG ins g ∧ e = .returned (.tuple #[.slice none 0 0, .int .i64 0, .int .i64 5])) ∨
   (ProgOk ins regs code outs ∧ FitsG ins g ∧ ∃ (k : Nat) (h : Grid), k < code.length ∧ after code (startG g regs.toNat (g.getD 0 []).length) k = some h ∧ after code (startG g regs.toNat (g.getD 0 []).length) (k + 1) = none ∧ e = .returned (.tuple #[.slice none 0 0, .int .i64 k, .int .i64 20])) ∨
   (ProgOk ins regs code outs ∧ FitsG ins g ∧ ∃ (h : Grid) (v : Value) (gs : List (List Int × Nat × Nat)), after code (startG g regs.toNat (g.getD 0 []).length) code.length = some h ∧ e = .returned (.tuple #[v, .int .i64 0, .int .i64 0]) ∧ gs.map (·.1) = outsG outs h ∧ AscLH gs ∧ (∀ x ∈ gs, w.heap.size ≤ x.2.1) ∧ OwnL 29 RowLH w w' v gs)) ∧ Below w.heap.size w w'
theorem ExRowsPostX.plain {ins regs : Int} {code : List Ins} {outs : List Int} {g : Grid} {w : World} {e : Ending} {w' : World} (h : ExRowsPostX ins regs code outs g w e w') : ExRowsPost ins regs code outs g w e w' := by
  obtain ⟨h, hB⟩ := h
  refine ⟨?_, hB⟩
  rcases h with h | h | h | ⟨h1, h2, h, v, gs, h3, h4, h5, h6, h7, h8⟩
  · exact .inl h
  · exact .inr (.inl h)
  · exact .inr (.inr (.inl h))
  · refine .inr (.inr (.inr ⟨h1, h2, h, v, h3, h4, ?_⟩))
    rw [← h5]
    exact h8.mapd _ fun u x hx hr => hr.1.rebase (h7 x hx)
set_option maxRecDepth 100000 in
set_option maxHeartbeats 16000000 in
theorem exRowsX_c (ins regs : Int) (ca oa : Option Addr) (cc oc : Nat) (code : List Ins) (outs : List Int) (vg : Value) (g : Grid) (K : Nat) (w : World) (hc : InsV w ca cc code) (ho : IntsV w oa oc outs) (hg : GridV w vg g) (hm0 : (g.getD 0 []).length ≤ 1099511627776) (hb : BdG K g) (hK : K ≤ 2147483648) :
    Calls Tryz.prog 44 #[.agg #[.int .i64 ins, .int .i64 regs, .slice ca code.length cc, .slice oa outs.length oc], vg] w (ExRowsPostX ins regs code outs g w) := by
  have kl := fun W (h : Below w.heap.size w W) => laid_c ins regs ca oa cc oc code outs vg g W (hc.keep h) (ho.keep h) (hg.keep (prs_row lims_int _ _) h) hm0
  have HC := Lib.hid (And.intro hc ho)
  have HBD := Lib.hid hb
  obtain ⟨ga, gc, rfl, hgc, -⟩ := hg.view
  clear hc ho hg hb
  have hB := Below.refl w.heap.size w
  go_enter Tryz.func44, Tryz.ntmps44
  go_wp2_with fail
  refine (kl _ (by repeat (first | exact Below.refl _ _ | exact hB | refine Below.drew ?_ | refine below_drewN ?_ _ | refine bset ?_ (by simp <;> omega) _ | refine bal ?_ _))).mono ?_
  rintro e w1 ⟨hp, hb1⟩
  have p0 : w1.cell? ⟨w.heap.size, 0, none⟩ = some (.int .i64 ins) := bkc hb1
  have zp0 := cell_lt p0
  have p1 : w1.cell? ⟨w.heap.size, 1, none⟩ = some (.int .i64 regs) := bkc hb1
  have p2 : w1.cell? ⟨w.heap.size, 2, none⟩ = some (.slice ca code.length cc) := bkc hb1
  have p3 : w1.cell? ⟨w.heap.size, 3, none⟩ = some (.slice oa outs.length oc) := bkc hb1
  have hB : Below w.heap.size w w1 := bthen (by repeat (first | exact Below.refl _ _ | exact hB | refine Below.drew ?_ | refine below_drewN ?_ _ | refine bset ?_ (by simp <;> omega) _ | refine bal ?_ _)) hb1
  have hz : w.heap.size ≤ w1.heap.size := hB.size
  clear kl
  rcases hp with ⟨hno, rfl⟩ | ⟨hok, hnf, rfl⟩ | ⟨hok, hfi, rb, hrb, rfl, hR⟩
  · have HNO := Lib.hid hno
    clear hno
    go_wp2
    go_ret3
    exact ⟨.inl ⟨HNO.out, rfl⟩, hB⟩
  · have HNO := Lib.hid (And.intro hok hnf)
    clear hok hnf
    go_wp2
    go_ret3
    exact ⟨.inr (.inl ⟨HNO.out.1, HNO.out.2, rfl⟩), hB⟩
  · have HOK := Lib.hid hok
    have HFI := Lib.hid hfi
    obtain ⟨R, hRE⟩ : ∃ R : Nat, regs = R := ⟨regs.toNat, by have := hok.i1; have := hok.i2; omega⟩
    have hgR : g.length ≤ R := by have := hok.i2; have := hfi.len; omega
    have hR128 : R ≤ 128 := by have := hok.r1; omega
    clear hok
    subst hRE
    rw [Int.toNat_natCast] at hR ⊢
    obtain ⟨m, hm⟩ : ∃ m, (g.getD 0 []).length = m := ⟨_, rfl⟩
    have hrect := hfi.rect
    rw [hm] at hR hm0 hrect
    have HM := Lib.hid hm
    have HRE := Lib.hid hrect
    have HRG := Lib.hid (hR.rebase (Nat.zero_le _))
    clear hm hfi hR hrect
    have HSL := Lib.hid (startG_len (n := m) hgR)
    have HSR := Lib.hid (startG_rect (regs := R) HRE.out)
    have HSB := Lib.hid (startG_bd (regs := R) (n := m) HBD.out)
    have hzz : rb < w1.heap.size := HRG.out.free.1
    have hrb' : w.heap.size + 1 ≤ rb := by simpa using hrb
    have hne : ¬ w.heap.size = rb := by omega
    have HP := Lib.hid (show ∀ W, Out (fun k => k = rb) w1 W → W.cell? ⟨w.heap.size, 0, none⟩ = some (.int .i64 ins) ∧ W.cell? ⟨w.heap.size, 1, none⟩ = some (.int .i64 (R : Int)) ∧ W.cell? ⟨w.heap.size, 2, none⟩ = some (.slice ca code.length cc) ∧ W.cell? ⟨w.heap.size, 3, none⟩ = some (.slice oa outs.length oc) from fun W h => ⟨okeep h p0 hne, okeep h p1 hne, okeep h p2 hne, okeep h p3 hne⟩)
    have HB1 := Lib.hid hB
    have rx := fun W (k : Below w1.heap.size w1 W) => runR_c ins (R : Int) ca oa cc outs.length oc code (startG g R m) m K rb 87 #[] W (HC.out.1.keep (HB1.out.trans (k.mono HB1.out.size))) (fun n hn => by rw [HSL.out]; exact ins_of HOK.out hn) HOK.out.c1 (cs_of HOK.out) (by rw [HSL.out]; exact hR128) (HRG.out.keep k) HSR.out (by have := HFI.out.m; rw [HM.out] at this; omega) HSB.out hK toldR_c (ens Tryz.func87 (by kernel_rfl) rfl) (fun b off e hl e2 => by
      rcases HC.out.1 with h0 | ⟨b', off', h1, _, h3⟩
      · rw [h0] at hl; simp at hl
      · rw [e] at h1; cases h1
        have := cell_lt (h3 0 hl).c0
        omega)
    rw [HSL.out] at rx
    have hO1 := Out.refl (fun k => k = rb) w1
    have hBc := Below.refl w1.heap.size w1
    clear p0 p1 p2 p3 hB hrb
    obtain ⟨p0, p1, p2, p3⟩ := HP.out w1 hO1
    go_wp2
    go_region_held3 (fun w' => w'.cell? ⟨w.heap.size, 0, none⟩ = some (.int .i64 ins) ∧ w'.cell? ⟨w.heap.size, 1, none⟩ = some (.int .i64 (R : Int)) ∧ w'.cell? ⟨w.heap.size, 2, none⟩ = some (.slice ca code.length cc) ∧ w'.cell? ⟨w.heap.size, 3, none⟩ = some (.slice oa outs.length oc))
      (first | (refine HP.out _ ?_; refine hO1.below ?_; (repeat (first | exact Below.refl _ _ | exact hBc | refine Below.drew ?_ | refine below_drewN ?_ _ | refine bset ?_ (by simp <;> omega) _ | refine bal ?_ _)); done) | (refine HP.out _ ?_; (repeat (first | exact hO4 | refine Out.drew ?_ | refine Out.drewN ?_ _)); done) | fail)
      (first
        | (go_at_call 86; refine (rowsV_c _).mono ?_; rintro e w3 ⟨rfl, hb3⟩; (have hBd : Below w1.heap.size w1 w3 := bthen (by repeat (first | exact Below.refl _ _ | exact hBc | refine Below.drew ?_ | refine below_drewN ?_ _ | refine bset ?_ (by simp <;> omega) _ | refine bal ?_ _)) hb3; clear hBc; have hBc := hBd; clear hBd))
        | (go_at_call 85; refine (rx _ ?_).mono ?_; (repeat (first | exact Below.refl _ _ | exact hBc | refine Below.drew ?_ | refine below_drewN ?_ _ | refine bset ?_ (by simp <;> omega) _ | refine bal ?_ _)); rintro e w4 hr4; obtain ⟨⟨q, rfl, hres⟩, hO4'⟩ := runRRes hr4; have hO4 : Out (fun k => k = rb) w1 w4 := (Out.of_below _ (by repeat (first | exact Below.refl _ _ | exact hBc | refine Below.drew ?_ | refine below_drewN ?_ _ | refine bset ?_ (by simp <;> omega) _ | refine bal ?_ _))).trans hO4'; have HRES := Lib.hid hres; clear hres hr4 hO4')
        | fail)
    all_goals
      have hB4 : Below w.heap.size w w4 := HB1.out.trans (hO4.to_below (fun q hq _ e => by omega) HB1.out.size)
      clear rx hBc p0 p1 p2 p3
      rcases HRES.out with ⟨q1, s, h1, h2, h3, rfl⟩ | ⟨s, h1, rfl, h2⟩
      · have HH := Lib.hid (And.intro h2 h3)
        clear h2 h3
        go_wp2
        go_ret3
        exact ⟨.inr (.inr (.inl ⟨HOK.out, HFI.out, q1, s, h1, by rw [Int.toNat_natCast, HM.out]; exact HH.out.1, by rw [Int.toNat_natCast, HM.out]; exact HH.out.2, rfl⟩)), by repeat (first | exact Below.refl _ _ | exact hB4 | refine Below.drew ?_ | refine below_drewN ?_ _ | refine bset ?_ (by simp <;> omega) _ | refine bal ?_ _)⟩
      · have HH := Lib.hid (And.intro h1 h2)
        have hsl := (after_len h1).trans HSL.out
        have HA := Lib.hid (after_rect HSR.out HSL.out (fun n hn => by have := (ins_of HOK.out hn).a1; have := (ins_of HOK.out hn).a0; rw [Int.toNat_natCast] at *; omega) (Nat.le_refl _) h1)
        clear h1 h2
        obtain ⟨p0, p1, p2, p3⟩ := HP.out w4 hO4
        have HL := Lib.hid hsl
        clear hsl
        have hBw := Below.refl w4.heap.size w4
        go_wp2
        refine wp_name fun w5 hW5 => ?_
        have hb45 : Below w4.heap.size w4 w5 := by rw [hW5]; repeat (first | exact Below.refl _ _ | exact hBw | refine Below.drew ?_ | refine below_drewN ?_ _ | refine bset ?_ (by simp <;> omega) _ | refine bal ?_ _)
        clear hW5 p0 p1 p2 p3
        obtain ⟨p0, p1, p2, p3⟩ := HP.out w5 (hO4.below hb45)
        have hB5 := bthen hB4 hb45
        have HR5 := Lib.hid (HH.out.2.keep hb45)
        go_loopw [10, 32] (fun v x wr => ∃ k : Nat, k ≤ outs.length ∧ x = .int .i64 k ∧ Hid (∃ gs, gs.map (·.1) = outsG (outs.take k) s ∧ AscLH gs ∧ (∀ x ∈ gs, w5.heap.size ≤ x.2.1) ∧ OwnL 29 RowLH w5 wr v gs)) (fun _ x _ => outs.length - (intOf x).toNat)
        case atStart => exact ⟨0, Nat.zero_le _, rfl, Lib.hid ⟨[], rfl, fun i j hi => absurd hi (by simp), fun x hx => absurd hx (by simp), OwnL.nil _ _ (Below.refl _ _)⟩⟩
        case round =>
          obtain ⟨k, hk, rfl, hO⟩ := hrel
          obtain ⟨gs, hgs, hasc, hlo, hOw⟩ := hO.out
          have HGS := Lib.hid (And.intro hgs (And.intro hasc hlo))
          have HOW := Lib.hid hOw
          have hbr := hOw.bel
          have hBr := bthen hB5 hbr
          have hol := HOK.out.o2
          have hlen : gs.length = k := by have := congrArg List.length hgs; simp [outsG] at this; omega
          obtain ⟨va, vc, hv⟩ := hOw.ex
          rw [hlen] at hv
          subst hv
          have HLEN := Lib.hid hlen
          clear hlen hgs hasc hlo hOw
          by_cases hlt : k < outs.length
          · have hltI : (k : Int) < (outs.length : Int) := by omega
            obtain ⟨q1, q2⟩ := HOK.out.os k hlt
            rcases HC.out.2 with h0 | ⟨ob, off, rfl, hcap, hcell⟩
            · rw [h0] at hlt; simp at hlt
            have hc := bkeep hBr (hcell k hlt)
            have zob := cell_lt hc
            obtain ⟨r, hr⟩ : ∃ r : Nat, outs.getD k 0 = r := ⟨(outs.getD k 0).toNat, by omega⟩
            rw [hr] at hc q1 q2
            have hrl : r < R := by omega
            have hrl2 : r < s.length := by rw [HL.out]; exact hrl
            obtain ⟨u, hu, hrow⟩ := HR5.out.cell r hrl2
            have hu2 := bkeep hbr hu
            have zu := cell_lt hu2
            have hlr := HA.out r hrl2
            have kcl := fun W (h : Below wr.heap.size wr W) => cloneRow_c 0 u (s.getD r []) W ((hrow.keep lims_int hbr).keep lims_int h) (by rw [hlr]; omega)
            have HN := Lib.hid (show outsG (outs.take (k + 1)) s = outsG (outs.take k) s ++ [s.getD r []] by
              rw [List.take_succ_eq_append_getElem hlt]
              have e : outs[k] = r := by rw [← hr]; simp [hlt]
              unfold outsG; rw [List.map_append, List.map_singleton, e, Int.toNat_natCast])
            obtain ⟨L, hL⟩ : ∃ L, s.getD r [] = L := ⟨_, rfl⟩
            rw [hL] at hrow kcl HN hlr
            have HLR := Lib.hid hlr
            obtain ⟨ua, uc, rfl, -⟩ := hrow
            rw [HLR.out] at hu2 kcl
            clear hr hcell hu hL hlr
            go_wp2_with fail
            refine (kcl _ (Below.refl _ _)).mono ?_
            rintro e w6 ⟨⟨v6, rfl, hr6⟩, hb6⟩
            have HO6 := Lib.hid (HOW.out.below prs_rowLH hb6)
            obtain ⟨a6, c6, hv6⟩ := hr6.ex
            rw [HLR.out] at hv6
            subst hv6
            have HR6 := Lib.hid hr6
            clear hr6 kcl
            go_wp2_with (at_builtin; refine appL (y := (L, wr.heap.size, (rowBlk (.slice a6 m c6)).elim 0 (· + 1))) elRow prs_rowLH (by decide) (by rfl) (by rfl) (HO6.out.below prs_rowLH (bal (Below.refl _ _) _)) ⟨HR6.out.keep lims_int (bal (Below.refl _ _) _), rfl⟩ (by rfl) (by rfl) (cell_new rfl rfl) (by rw [HLEN.out]; omega) (by rw [HLEN.out]; unfold maxLen; omega) ?_)
            intro v' w8 hO8 hk8
            have HO8 := Lib.hid (show ∃ gs, gs.map (·.1) = outsG (outs.take (k + 1)) s ∧ AscLH gs ∧ (∀ x ∈ gs, w5.heap.size ≤ x.2.1) ∧ OwnL 29 RowLH w5 w8 v' gs from ⟨_, by rw [List.map_append, HGS.out.1, HN.out]; rfl, ascLH_snoc HGS.out.2.1 (fun i hi => by obtain ⟨_, _, e, _, vr⟩ := HOW.out.isL.view; obtain ⟨_, _, u, _, _, hp⟩ := vr i hi; exact hp.hi), fun x hx => by
              rcases List.mem_append.1 hx with h | h
              · exact HGS.out.2.2 x h
              · simp at h; subst h; exact hbr.size, hO8⟩)
            clear hO8 hk8
            go_wp2
            exact ⟨⟨k + 1, by omega, by go_num, HO8⟩, by simp [intOf]; omega⟩
          · obtain rfl : k = outs.length := by omega
            rw [List.take_length] at HGS
            have HFIN := Lib.hid (show OwnL 29 RowLH w wr (.slice va outs.length vc) gs from HOW.out.rebase hB5)
            go_wp2
            go_ret3
            exact ⟨.inr (.inr (.inr ⟨HOK.out, HFI.out, s, _, gs, by rw [Int.toNat_natCast, HM.out]; exact HH.out.1, rfl, HGS.out.1, HGS.out.2.1, fun x hx => Nat.le_trans hB5.size (HGS.out.2.2 x hx), HFIN.out⟩)), hBr⟩
theorem exRows_c (ins regs : Int) (ca oa : Option Addr) (cc oc : Nat) (code : List Ins) (outs : List Int) (vg : Value) (g : Grid) (K : Nat) (w : World) (hc : InsV w ca cc code) (ho : IntsV w oa oc outs) (hg : GridV w vg g) (hm0 : (g.getD 0 []).length ≤ 1099511627776) (hb : BdG K g) (hK : K ≤ 2147483648) :
    Calls Tryz.prog 44 #[.agg #[.int .i64 ins, .int .i64 regs, .slice ca code.length cc, .slice oa outs.length oc], vg] w (ExRowsPost ins regs code outs g w) :=
  (exRowsX_c ins regs ca oa cc oc code outs vg g K w hc ho hg hm0 hb hK).mono fun _ _ h => h.plain
/-- what Judge answers -/
def JudgePost (ins regs : Int) (code : List Ins) (outs : List Int) (g : Grid) (w : World) (e : Ending) (w' : World) : Prop :=
  ((¬ ProgOk ins regs code outs ∧ e = .returned (.tuple #[.int .i64 0, .int .i64 80])) ∨
   (ProgOk ins regs code outs ∧ ¬ FitsG ins g ∧ e = .returned (.tuple #[.int .i64 0, .int .i64 5])) ∨
   (ProgOk ins regs code outs ∧ FitsG ins g ∧ ∃ (k : Nat) (h : Grid), k < code.length ∧ after code (startG g regs.toNat (g.getD 0 []).length) k = some h ∧ after code (startG g regs.toNat (g.getD 0 []).length) (k + 1) = none ∧ e = .returned (.tuple #[.int .i64 k, .int .i64 20])) ∨
   (ProgOk ins regs code outs ∧ FitsG ins g ∧ ∃ (h : Grid), after code (startG g regs.toNat (g.getD 0 []).length) code.length = some h ∧ e = .returned (.tuple #[.int .i64 0, .int .i64 0]))) ∧ Below w.heap.size w w'
/-- Rows' answer: a list, an int, an error -/
theorem exRowsRes {ins regs : Int} {code : List Ins} {outs : List Int} {g : Grid} {w : World} {e : Ending} {w' : World} (h : ExRowsPost ins regs code outs g w e w') : (∃ (a : Option Addr) (n c : Nat) (q r : Int), e = .returned (.tuple #[.slice a n c, .int .i64 q, .int .i64 r]) ∧
    ∀ W, Below w'.heap.size w' W → JudgePost ins regs code outs g w (.returned (.tuple #[.int .i64 q, .int .i64 r])) W) ∧ Below w.heap.size w w' := by
  obtain ⟨h, hB⟩ := h
  refine ⟨?_, hB⟩
  rcases h with ⟨h1, rfl⟩ | ⟨h1, h2, rfl⟩ | ⟨h1, h2, k, s, h3, h4, h5, rfl⟩ | ⟨h1, h2, s, v, h3, rfl, h4⟩
  · exact ⟨_, _, _, _, _, rfl, fun W k => ⟨.inl ⟨h1, rfl⟩, bthen hB k⟩⟩
  · exact ⟨_, _, _, _, _, rfl, fun W k => ⟨.inr (.inl ⟨h1, h2, rfl⟩), bthen hB k⟩⟩
  · exact ⟨_, _, _, _, _, rfl, fun W q => ⟨.inr (.inr (.inl ⟨h1, h2, k, s, h3, h4, h5, rfl⟩)), bthen hB q⟩⟩
  · obtain ⟨a, c, rfl⟩ := h4.ex
    exact ⟨_, _, _, _, _, rfl, fun W q => ⟨.inr (.inr (.inr ⟨h1, h2, s, h3, rfl⟩)), bthen hB q⟩⟩
set_option maxRecDepth 100000 in
set_option maxHeartbeats 2000000 in
theorem exJudge_c (ins regs : Int) (ca oa : Option Addr) (cc oc : Nat) (code : List Ins) (outs : List Int) (vg : Value) (g : Grid) (K : Nat) (w : World) (hc : InsV w ca cc code) (ho : IntsV w oa oc outs) (hg : GridV w vg g) (hm0 : (g.getD 0 []).length ≤ 1099511627776) (hb : BdG K g) (hK : K ≤ 2147483648) :
    Calls Tryz.prog 45 #[.agg #[.int .i64 ins, .int .i64 regs, .slice ca code.length cc, .slice oa outs.length oc], vg] w (JudgePost ins regs code outs g w) := by
  have kl := fun W (h : Below w.heap.size w W) => exRows_c ins regs ca oa cc oc code outs vg g K W (hc.keep h) (ho.keep h) (hg.keep (prs_row lims_int _ _) h) hm0 hb hK
  obtain ⟨ga, gc, rfl, hgc, -⟩ := hg.view
  clear hc ho hg hb
  have hB := Below.refl w.heap.size w
  go_enter Tryz.func45, Tryz.ntmps45
  go_wp2_with fail
  refine (kl _ (by repeat (first | exact Below.refl _ _ | exact hB | refine Below.drew ?_ | refine below_drewN ?_ _ | refine bset ?_ (by simp <;> omega) _ | refine bal ?_ _))).mono ?_
  rintro e w1 hp
  obtain ⟨⟨a, n, c, q, r, rfl, hJ⟩, hb1⟩ := exRowsRes hp
  have HJ := Lib.hid hJ
  clear hJ hp kl
  go_wp2
  go_ret2
  obtain ⟨h, _⟩ := HJ.out _ (Below.refl _ _)
  exact ⟨h, bthen (by repeat (first | exact Below.refl _ _ | exact hB | refine Below.drew ?_ | refine below_drewN ?_ _ | refine bset ?_ (by simp <;> omega) _ | refine bal ?_ _)) hb1⟩
end Go.Proofs.YtannhpadoooedaaGreatDoor

/- exact: Steps: what its iterator tells. -/
namespace Go.Proofs.YtannhpadoooedaaGreatDoor
open Num
open Go.ChangeShapes Go.WideShapes Go.ChangeAt Go.RowKit
set_option linter.unusedVariables false
set_option linter.unusedSimpArgs false
attribute [local go_sem ↓] Go.wp_at_zero Go.wp_at_succ
/-- what is told: the k-th row, in memory of its own -/
def AR (n0 : Nat) (T : Nat → List Int) (k : Nat) (args : Array Value) (X : World) : Prop := ∃ v base, args = #[.int .i64 (k : Int), v] ∧ n0 ≤ base ∧ RowO IsInt 48 base X v (T k)
/-- the block of what is told -/
def XsR (args : Array Value) (q : Nat) : Prop := ∃ v, args[1]? = some v ∧ rowBlk v = some q
theorem AR.cells {n0 : Nat} {T : Nat → List Int} {k q : Nat} {args : Array Value} {X : World} (h : AR n0 T k args X) (hq : XsR args q) : ∃ o, X.heap[q]? = some o ∧ o.isCells = true := by
  obtain ⟨v, base, rfl, _, hr⟩ := h
  obtain ⟨v', e, hb⟩ := hq
  simp at e
  subst e
  exact typ_cells (rowO_blk hr hb).2
/-- what a loop's body is asked -/
def YieldsD (l m : Nat) (A : Nat → Array Value → World → Prop) (Xs : Array Value → Nat → Prop) (J Jx : Nat → (Nat → Prop) → World → Prop) : Prop :=
  ∀ k args S X, k < m → J k S X → A k args X → (∀ q, Xs args q → ¬ S q) → YieldAt Fence.wide 3 Tryz.prog l args X fun e Y => (∃ b, e = .returned (.bool b) ∧ ((b = true ∧ ∃ S', Grew S S' X ∧ J (k + 1) S' Y ∧ OutT (fun q => S q ∨ Xs args q) X Y) ∨ (b = false ∧ ∃ S', Jx (k + 1) S' Y)))
theorem yieldAt_mono {F : Fence} {m : Nat} {P : Program} {l : Nat} {args : Array Value} {W : World} {R R' : Ending → World → Prop} (h : YieldAt F m P l args W R) (hr : ∀ e w, R e w → R' e w) : YieldAt F m P l args W R' := by
  obtain ⟨fn, tmps, asg, body, hy, hR⟩ := h
  exact ⟨fn, tmps, asg, body, hy, hR.mono hr⟩
theorem OutT.base {S X : Nat → Prop} {a b c : World} (k : Below a.heap.size a b) (h : OutT (fun q => S q ∨ X q) b c) (hx : ∀ q, X q → a.heap.size ≤ q) (hS : ∀ q, S q → q < a.heap.size) : OutT S a c := by
  refine ⟨⟨h.1.os.trans k.os, h.1.tape.trans k.tape, h.1.output.trans k.output, Nat.le_trans k.size h.1.size, fun q hq hs => (h.1.block q (Nat.lt_of_lt_of_le hq k.size) fun e => ?_).trans (k.block q hq)⟩, fun q hq hl => ?_⟩
  · rcases e with e | e
    · exact hs e
    · have := hx q e; omega
  · rw [h.2 q (.inl hq) (Nat.lt_of_lt_of_le hl k.size)]
    unfold typOf; rw [k.block q hl]
set_option maxRecDepth 100000 in
set_option maxHeartbeats 8000000 in
theorem stepsF_c (y yb M mm : Nat) (T : Nat → List Int) (J Jx : Nat → (Nat → Prop) → World → Prop) (C : World → Prop) (n0 : Nat) (hJ : ∀ k S X Y, J k S X → Clo n0 S X Y → KeepsOthers X Y → J k S Y) (hJS : ∀ k S X, J k S X → Soil S X) (hT : ∀ k, k < M → (T k).length ≤ 1099511627776)
    (hC : ∀ W, C W → W.cell? ⟨yb, 0, none⟩ = some (.func (.yield y) #[] #[])) (hCn : ∀ W, C W → n0 ≤ W.heap.size) (hY : YieldsD y M (AR n0 T) XsR J Jx) : FnTD 91 #[.pointer (some ⟨yb, 0, none⟩)] T M J Jx C := by
  intro k S W v hk hj hc hv
  show Calls Tryz.prog 91 #[.int .i64 (k : Int), v, .pointer (some ⟨yb, 0, none⟩)] W _
  have HV := Lib.hid hv
  have HJ := Lib.hid hJ
  have HJK := Lib.hid hj
  have HS := Lib.hid (hJS k S W hj)
  have HYY := Lib.hid hY
  have hl := hT k hk
  have y0 := hC W hc
  have hnW := hCn W hc
  have zy := cell_lt y0
  have kcl := fun W1 (h : Below W.heap.size W W1) => cloneRow_c 0 v (T k) W1 (hv.keep lims_int h) hl
  obtain ⟨va, vc, rfl, -⟩ := hv
  clear hJ hj hJS hY hT hC hc hCn
  have hB := Below.refl W.heap.size W
  go_enter Tryz.func91, Tryz.ntmps91
  go_wp2
  have hmx : (Tryz.prog).follows .mixedOrders = true := by kernel_rfl
  refine (wpIn_wide (n := 4)).1 ?_
  gi_region_with_o (first
    | (refine ⟨trivial, ?_⟩; refine CallsIn.mono (callsIn_wide.2 (kcl _ ?_)) ?_; (repeat (first | exact Below.refl _ _ | exact hB | refine Below.drew ?_ | refine below_drewN ?_ _ | refine bset ?_ (by simp <;> omega) _ | refine bal ?_ _)); rintro e w5 ⟨⟨v5, rfl, hr5⟩, hb5⟩; have hB5 : Below W.heap.size W w5 := bthen (by repeat (first | exact Below.refl _ _ | exact hB | refine Below.drew ?_ | refine below_drewN ?_ _ | refine bset ?_ (by simp <;> omega) _ | refine bal ?_ _)) hb5; have y5 := bkeep hB5 y0; (have hr5' : RowO IsInt 48 W.heap.size w5 v5 (T k) := hr5); obtain ⟨fn, tmps, asg, body, hy, hRd⟩ := HYY.out k _ S w5 hk (HJ.out _ _ _ _ HJK.out (.of_below hB5) (out_others (Out.of_below (fun _ => False) hB5) fun _ h => h.elim)) ⟨v5, _, rfl, hnW, hr5'⟩ (fun q hq hs => by obtain ⟨v', e, hb⟩ := hq; simp at e; subst e; have h1 := (rowO_blk hr5' hb).1; have h2 := HS.out.lt hs; omega); obtain ⟨a5, c5, rfl⟩ := hr5'.ex)
    | (refine hRd.mono ?_; rintro e w6 ⟨bb, rfl, hres⟩; have HRES := Lib.hid hres; clear hres)
    | fail)
  all_goals
    gi_wp2
    go_wp2
    go_ret
    refine ⟨bb, rfl, ?_⟩
    rcases HRES.out with ⟨h1, S', hg, hj', ho⟩ | ⟨h1, S', hx⟩
    · exact .inl ⟨h1, S', fun q hq => (hg q hq).imp id (Nat.le_trans hB5.size), hj', OutT.base hB5 ho (fun q hq => by obtain ⟨v', e, hb⟩ := hq; simp at e; subst e; exact (rowO_blk hr5' hb).1) fun q hq => HS.out.lt hq⟩
    · exact .inr ⟨h1, S', hx⟩
theorem toldR_len {code : List Ins} {g h : Grid} {m R M k : Nat} (hr : Rect m g) (hl : g.length = R) (ha : ∀ n, n < code.length → (code.getD n default).a.toNat < R) (hM : M ≤ code.length) (e : after code g M = some h) (hk : k < M) : (toldR code g k).length = m := by
  cases e1 : after code g k with
  | none => rw [after_mono e1 (show k ≤ M by omega)] at e; cases e
  | some g1 =>
    have hA := after_rect hr hl ha (show k ≤ code.length by omega) e1 (code.getD k default).a.toNat (by rw [after_len e1, hl]; exact ha k (by omega))
    cases e2 : stepR (code.getD k default) (g1.getD (code.getD k default).a.toNat []) (g1.getD (code.getD k default).b.toNat []) with
    | none =>
      have : after code g (k + 1) = none := by rw [after, e1, Option.bind_some, e2]; rfl
      rw [after_mono this (show k + 1 ≤ M by omega)] at e; cases e
    | some r => rw [toldR_eq e1 e2, stepR_len e2, hA]
/-- what the iterator finds -/
structure StepsIn (n0 : Nat) (S0 : Nat → Prop) (pb xb : Nat) (ins regs : Int) (ca oa : Option Addr) (cc oc : Nat) (code : List Ins) (outs : List Int) (v : Value) (g : Grid) (W : World) : Prop where
  p0 : W.cell? ⟨pb, 0, none⟩ = some (.int .i64 ins)
  p1 : W.cell? ⟨pb, 1, none⟩ = some (.int .i64 regs)
  p2 : W.cell? ⟨pb, 2, none⟩ = some (.slice ca code.length cc)
  p3 : W.cell? ⟨pb, 3, none⟩ = some (.slice oa outs.length oc)
  x0 : W.cell? ⟨xb, 0, none⟩ = some v
  hc : InsV W ca cc code
  ho : IntsV W oa oc outs
  hv : GridV W v g
  hm : (g.getD 0 []).length ≤ 1099511627775
  lt : ∀ q, S0 q → q < n0
  le : n0 ≤ W.heap.size
  nc : ∀ b off, ca = some ⟨b, off, none⟩ → 0 < code.length → ¬ S0 b
section
variable {n0 : Nat} {S0 : Nat → Prop} {pb xb : Nat} {ins regs : Int} {ca oa : Option Addr} {cc oc : Nat} {code : List Ins} {outs : List Int} {v : Value} {g : Grid} {W W' : World}
theorem StepsIn.keep (h : StepsIn n0 S0 pb xb ins regs ca oa cc oc code outs v g W) (k : Below W.heap.size W W') : StepsIn n0 S0 pb xb ins regs ca oa cc oc code outs v g W' :=
  ⟨bkeep k h.p0, bkeep k h.p1, bkeep k h.p2, bkeep k h.p3, bkeep k h.x0, h.hc.keep k, h.ho.keep k, h.hv.keep (prs_row lims_int _ _) k, h.hm, h.lt, Nat.le_trans h.le k.size, h.nc⟩
set_option maxRecDepth 100000 in
set_option maxHeartbeats 8000000 in
/-- it tells nothing, where the program may not be, or is handed what it must not -/
theorem steps_no (A : Nat → Array Value → World → Prop) (Xs : Array Value → Nat → Prop) (hno : ¬ ProgOk ins regs code outs ∨ ¬ FitsG ins g) : IterD Tryz.prog 90 #[.pointer (some ⟨pb, 0, none⟩), .pointer (some ⟨xb, 0, none⟩)] A 0 Xs n0 S0 (StepsIn n0 S0 pb xb ins regs ca oa cc oc code outs v g) := by
  intro y J Jx W hG hJ hJx hJS hY h0
  refine callsIn_wide.2 ?_
  show Calls Tryz.prog 90 #[.func (.yield y) #[] #[], .pointer (some ⟨pb, 0, none⟩), .pointer (some ⟨xb, 0, none⟩)] W _
  have kr := fun V (h : Below W.heap.size W V) => laid_c ins regs ca oa cc oc code outs v g V (hG.hc.keep h) (hG.ho.keep h) (hG.hv.keep (prs_row lims_int _ _) h) (Nat.le_trans hG.hm (by omega))
  have HJ := Lib.hid (fun V (h : Below W.heap.size W V) => hJ 0 S0 W V h0 (.of_below h) (others_of_below h))
  have HNO := Lib.hid hno
  have p0 := hG.p0
  have p1 := hG.p1
  have p2 := hG.p2
  have p3 := hG.p3
  have x0 := hG.x0
  obtain ⟨va, vc, rfl, -⟩ := hG.hv.view
  have zp0 := cell_lt p0
  have zx0 := cell_lt x0
  clear hG hJ hJx hJS hY h0 hno
  have hB := Below.refl W.heap.size W
  go_enter Tryz.func90, Tryz.ntmps90
  go_wp2_with fail
  refine (kr _ (by repeat (first | exact Below.refl _ _ | exact hB | refine Below.drew ?_ | refine below_drewN ?_ _ | refine bset ?_ (by simp <;> omega) _ | refine bal ?_ _))).mono ?_
  rintro e w1 ⟨hp, hb1⟩
  have HJ1 := Lib.hid (HJ.out w1 (bthen (by repeat (first | exact Below.refl _ _ | exact hB | refine Below.drew ?_ | refine below_drewN ?_ _ | refine bset ?_ (by simp <;> omega) _ | refine bal ?_ _)) hb1))
  clear kr
  rcases hp with ⟨h1, rfl⟩ | ⟨h1, h2, rfl⟩ | ⟨h1, h2, _⟩
  · clear h1
    go_wp2
    refine bodyPost_ret (results_none rfl _ _ _) rfl ?_
    exact ⟨⟨_, rfl⟩, .inl ⟨S0, HJ1.out⟩⟩
  · clear h1 h2
    go_wp2
    refine bodyPost_ret (results_none rfl _ _ _) rfl ?_
    exact ⟨⟨_, rfl⟩, .inl ⟨S0, HJ1.out⟩⟩
  · rcases HNO.out with h | h
    · exact absurd h1 h
    · exact absurd h2 h
set_option maxRecDepth 100000 in
set_option maxHeartbeats 8000000 in
/-- it tells the rows that the instructions set, up to the one that fails -/
theorem steps_yes {M K m : Nat} (hok : ProgOk ins regs code outs) (hfi : FitsG ins g) (hm : (g.getD 0 []).length = m) (hM : ToldG code (startG g regs.toNat m) M) (hb : BdG K g) (hK : K ≤ 2147483648) :
    IterD Tryz.prog 90 #[.pointer (some ⟨pb, 0, none⟩), .pointer (some ⟨xb, 0, none⟩)] (AR n0 (toldR code (startG g regs.toNat m))) M XsR n0 S0 (StepsIn n0 S0 pb xb ins regs ca oa cc oc code outs v g) := by
  intro y J Jx W hG hJ hJx hJS hY h0
  refine callsIn_wide.2 ?_
  show Calls Tryz.prog 90 #[.func (.yield y) #[] #[], .pointer (some ⟨pb, 0, none⟩), .pointer (some ⟨xb, 0, none⟩)] W _
  have kr := fun V (h : Below W.heap.size W V) => laid_c ins regs ca oa cc oc code outs v g V (hG.hc.keep h) (hG.ho.keep h) (hG.hv.keep (prs_row lims_int _ _) h) (Nat.le_trans hG.hm (by omega))
  have HJ := Lib.hid (fun V (h : Below W.heap.size W V) => hJ 0 S0 W V h0 (.of_below h) (others_of_below h))
  have HJJ := Lib.hid hJ
  have HJS := Lib.hid hJS
  have HY := Lib.hid (show YieldsD y M (AR n0 (toldR code (startG g regs.toNat m))) XsR J Jx from fun k args S X hk hj ha hx => yieldAt_mono (yieldAt_wide (hY k args S X hk hj ha hx)) fun e w h => by
    rcases h with ⟨rfl, h⟩ | ⟨rfl, h⟩
    · exact ⟨true, rfl, .inl ⟨rfl, h⟩⟩
    · exact ⟨false, rfl, .inr ⟨rfl, h⟩⟩)
  have HG := Lib.hid hG
  have HOK := Lib.hid hok
  have HFI := Lib.hid hfi
  have HM := Lib.hid hM
  have HBD := Lib.hid hb
  obtain ⟨R, hR⟩ : ∃ R : Nat, regs = R := ⟨regs.toNat, by have := hok.i1; have := hok.i2; omega⟩
  have hgR : g.length ≤ R := by have := hok.i2; have := hfi.len; omega
  have hR128 : R ≤ 128 := by have := hok.r1; omega
  have hmm : m ≤ 1099511627775 := by have := hG.hm; omega
  have p0 := hG.p0
  have p1 := hG.p1
  have p2 := hG.p2
  have p3 := hG.p3
  have x0 := hG.x0
  have hn0 := hG.le
  obtain ⟨va, vc, rfl, -⟩ := hG.hv.view
  have zp0 := cell_lt p0
  have zx0 := cell_lt x0
  have hrect := hfi.rect
  rw [hm] at hrect
  have HRE := Lib.hid hrect
  have HMM := Lib.hid hm
  clear hG hJ hJx hJS hY h0 hok hfi hM hb hm hrect
  subst hR
  rw [Int.toNat_natCast] at HY HM
  have HSL := Lib.hid (startG_len (n := m) hgR)
  have HSR := Lib.hid (startG_rect (regs := R) HRE.out)
  have HSB := Lib.hid (startG_bd (regs := R) (n := m) HBD.out)
  have hB := Below.refl W.heap.size W
  have y0 : (W.alloc (.cells #[.func (.yield y) #[] #[]] 158)).cell? ⟨W.heap.size, 0, none⟩ = some (.func (.yield y) #[] #[]) := cell_new rfl rfl
  go_enter Tryz.func90, Tryz.ntmps90
  go_wp2_with fail
  refine (kr _ (by repeat (first | exact Below.refl _ _ | exact hB | refine Below.drew ?_ | refine below_drewN ?_ _ | refine bset ?_ (by simp <;> omega) _ | refine bal ?_ _))).mono ?_
  rintro e w1 ⟨hp, hb1⟩
  have hB1 : Below W.heap.size W w1 := bthen (by repeat (first | exact Below.refl _ _ | exact hB | refine Below.drew ?_ | refine below_drewN ?_ _ | refine bset ?_ (by simp <;> omega) _ | refine bal ?_ _)) hb1
  have y1 : w1.cell? ⟨W.heap.size, 0, none⟩ = some (.func (.yield y) #[] #[]) := bkeep hb1 (by first | exact cell_new rfl rfl | exact cell_drew (cell_new rfl rfl))
  clear kr y0
  rcases hp with ⟨h1, rfl⟩ | ⟨h1, h2, rfl⟩ | ⟨h1, h2, rb, hrb, rfl, hR⟩
  · exact absurd HOK.out h1
  · exact absurd HFI.out h2
  · rw [Int.toNat_natCast, HMM.out] at hR
    have hrb' : W.heap.size + 1 ≤ rb := by simpa using hrb
    have zrb := hR.free.1
    have HR := Lib.hid hR
    clear h1 h2 hR
    replace p0 := bkeep hB1 p0
    replace p1 := bkeep hB1 p1
    replace p2 := bkeep hB1 p2
    replace p3 := bkeep hB1 p3
    replace x0 := bkeep hB1 x0
    have zp1 := cell_lt p0
    have zx1 := cell_lt x0
    have zy1 := cell_lt y1
    have hsz : W.heap.size ≤ w1.heap.size := hB1.size
    have HP := Lib.hid (show ∀ V, Below w1.heap.size w1 V → V.cell? ⟨pb, 0, none⟩ = some (.int .i64 ins) ∧ V.cell? ⟨pb, 1, none⟩ = some (.int .i64 (R : Int)) ∧ V.cell? ⟨pb, 2, none⟩ = some (.slice ca code.length cc) ∧ V.cell? ⟨pb, 3, none⟩ = some (.slice oa outs.length oc) from fun V h => ⟨bkeep h p0, bkeep h p1, bkeep h p2, bkeep h p3⟩)
    have rx := fun V (k : Below w1.heap.size w1 V) => runT_c n0 M S0 J Jx HJJ.out HJS.out HG.out.lt ins (R : Int) ca oa cc outs.length oc code (startG g R m) m K rb 91 #[.pointer (some ⟨W.heap.size, 0, none⟩)] V (HG.out.hc.keep (bthen hB1 k)) (fun n hn => by rw [HSL.out]; exact ins_of HOK.out hn) HOK.out.c1 (cs_of HOK.out) (by rw [HSL.out]; exact hR128) ((HR.out.rebase (by simp; omega)).keep k) HSR.out hmm HSB.out hK HM.out
      (stepsF_c y W.heap.size M m (toldR code (startG g R m)) J Jx _ n0 HJJ.out HJS.out (fun k hk => by
        obtain ⟨hh, ehh⟩ := HM.out.has
        have := toldR_len HSR.out HSL.out (fun n hn => by have := (ins_of HOK.out hn).a1; have := (ins_of HOK.out hn).a0; omega) HM.out.le ehh hk
        omega) (fun V2 ho => okeep ho (bkeep k y1) (fun h => by
        rcases h with h | h
        · omega
        · have := HG.out.lt _ h; omega)) (fun V2 ho => Nat.le_trans HG.out.le (Nat.le_trans (Nat.le_trans hsz k.size) ho.size)) HY.out) (ens Tryz.func91 (by kernel_rfl) rfl) (fun b off e hl => ⟨fun e2 => by
      rcases HG.out.hc with h0 | ⟨b', off', h1, _, h3⟩
      · rw [h0] at hl; simp at hl
      · rw [e] at h1; cases h1
        have := cell_lt (h3 0 hl).c0
        omega, HG.out.nc b off e hl⟩) (by omega) (HJ.out V (bthen hB1 k))
    rw [HSL.out] at rx
    have RX := Lib.hid rx
    clear p0 p1 p2 p3 x0 rx y1
    obtain ⟨p0, p1, p2, p3⟩ := HP.out w1 (Below.refl _ _)
    have zp2 := cell_lt p0
    have hBc := Below.refl w1.heap.size w1
    go_wp2
    go_region_law (go_simp; go_wp2_with (first
      | (go_at_call 86; refine (rowsV_c _).mono ?_; rintro e w3 ⟨rfl, hb3⟩; (have hBd : Below w1.heap.size w1 w3 := bthen (by repeat (first | exact Below.refl _ _ | exact hBc | refine Below.drew ?_ | refine below_drewN ?_ _ | refine bset ?_ (by simp <;> omega) _ | refine bal ?_ _)) hb3; clear hBc; have hBc := hBd; clear hBd); obtain ⟨p0, p1, p2, p3⟩ := HP.out w3 hBc; have zp3 := cell_lt p0)
      | (go_at_call 85; refine (RX.out _ ?_).mono ?_; (repeat (first | exact Below.refl _ _ | exact hBc | refine Below.drew ?_ | refine below_drewN ?_ _ | refine bset ?_ (by simp <;> omega) _ | refine bal ?_ _)); rintro e w4 ⟨⟨q, rfl⟩, hres⟩; have HRES := Lib.hid hres; clear hres)
      | fail))
    all_goals
      go_wp2
      refine bodyPost_end (results_none rfl _ _ _) rfl ?_
      exact ⟨⟨_, rfl⟩, HRES.out⟩
end
end Go.Proofs.YtannhpadoooedaaGreatDoor

/- exact: Widest. -/
namespace Go.Proofs.YtannhpadoooedaaGreatDoor
open Num
open Go.ChangeShapes Go.WideShapes Go.ChangeAt Go.RowKit
set_option linter.unusedVariables false
set_option linter.unusedSimpArgs false
attribute [local go_sem ↓] Go.wp_at_zero Go.wp_at_succ
attribute [local go_sem] Oper.semAt_some
/-- the greatest amount of all rows -/
def widG (m : Int) (g : Grid) : Int := g.foldl (fun m l => widS m (widL l)) m
theorem widG_snoc (m : Int) (g : Grid) (l : List Int) : widG m (g ++ [l]) = widS (widG m g) (widL l) := by simp [widG]
theorem widG_app (m : Int) (g h : Grid) : widG m (g ++ h) = widG (widG m g) h := by simp [widG]
theorem widG_take {m : Int} {g : Grid} {j : Nat} (hj : j < g.length) : widG m (g.take (j + 1)) = widS (widG m (g.take j)) (widL (g.getD j [])) := by
  rw [List.take_succ_eq_append_getElem hj, widG_snoc]; simp [hj]
theorem out_low {X0 : Nat → Prop} {a b c : World} (h : Out X0 a b) (k : Below a.heap.size b c) : Out X0 a c :=
  ⟨k.os.trans h.os, k.tape.trans h.tape, k.output.trans h.output, Nat.le_trans h.size k.size, fun i hi hx => (k.block i hi).trans (h.block i hi hx)⟩
theorem kp_put {X : World} {l : Nat} {o o' : Obj} (h : X.heap[l]? = some o) (ho : o.isCells = false) : Kp (fun _ => True) X (X.putObj l o') := fun q t ht _ => by
  refine World.putObj_heap_other fun e => ?_
  subst e
  rw [typ_none h ho] at ht; cases ht
/-- a variable in memory that holds a number -/
def VarI (ub : Nat) (m : Int) (W : World) : Prop := typOf W ub = some 48 ∧ ∃ n a ln c, W.cell? ⟨ub, 0, none⟩ = some (.bool n) ∧ W.cell? ⟨ub, 1, none⟩ = some (.slice a ln c) ∧ W.frozen? ⟨ub, 0, none⟩ = false ∧ W.frozen? ⟨ub, 1, none⟩ = false ∧ IsInt W (.agg #[.bool n, .slice a ln c]) m
theorem VarI.keep {ub : Nat} {m : Int} {W V : World} (h : VarI ub m W) (k : Below W.heap.size W V) : VarI ub m V := by
  obtain ⟨ht, n, a, ln, c, h0, h1, f0, f1, hi⟩ := h
  exact ⟨typ_keep ht k, n, a, ln, c, bkeep k h0, bkeep k h1, bkeepf k h0 f0, bkeepf k h1 f1, hi.keep k⟩
theorem VarI.clo {ub n0 : Nat} {S : Nat → Prop} {m : Int} {W V : World} (h : VarI ub m W) (k : Clo n0 S W V) (hu : ub < n0 ∨ S ub) : VarI ub m V := by
  obtain ⟨ht, n, a, ln, c, h0, h1, f0, f1, hi⟩ := h
  exact ⟨k.typ hu ht, n, a, ln, c, k.cell hu h0, k.cell hu h1, k.frz hu h0 f0, k.frz hu h1 f1, hi.lim k.lim⟩
theorem VarI.put {ub : Nat} {m z : Int} {W : World} {n : Bool} {a : Option Addr} {ln c : Nat} (h : VarI ub m W) (hi : IsInt W (.agg #[.bool n, .slice a ln c]) z) : VarI ub z ((W.setCell ⟨ub, 0, none⟩ (.bool n)).setCell ⟨ub, 1, none⟩ (.slice a ln c)) := by
  obtain ⟨ht, n', a', ln', c', h0, h1, f0, f1, _⟩ := h
  refine ⟨by rw [typ_set, typ_set]; exact ht, n, a, ln, c, cell_far (cell_here h0 _) (by simp) _, cell_here (cell_far h1 (by simp) _) _, ?_, ?_, hi.put2 h0 h1 _ _⟩
  · rw [World.frozen?_setCell, World.frozen?_setCell]; exact f0
  · rw [World.frozen?_setCell, World.frozen?_setCell]; exact f1
set_option maxRecDepth 100000 in
set_option maxHeartbeats 4000000 in
theorem wider_c (ub : Nat) (m : Int) (v : Value) (l : List Int) (w : World) (hu : VarI ub m w) (hv : PRow 0 w v l) (hl : l.length ≤ 1099511627775) :
    Calls Tryz.prog 88 #[v, .pointer (some ⟨ub, 0, none⟩)] w fun e w' => (∃ r, e = .returned r) ∧ VarI ub (widS m (widL l)) w' ∧ Out (fun q => q = ub) w w' := by
  have HU := Lib.hid hu
  have wc := fun W (h : Below w.heap.size w W) => rowWidest_c v l W (hv.keep lims_int h) hl
  obtain ⟨va, vc, rfl, -⟩ := hv
  obtain ⟨m', hm'⟩ : ∃ m', widL l = m' := ⟨_, rfl⟩
  rw [hm'] at wc ⊢
  clear hm' hu
  have hB := Below.refl w.heap.size w
  go_enter Tryz.func88, Tryz.ntmps88
  go_wp2_with fail
  refine (wc _ (by repeat (first | exact Below.refl _ _ | exact hB | refine Below.drew ?_ | refine below_drewN ?_ _ | refine bset ?_ (by simp <;> omega) _ | refine bal ?_ _))).mono ?_
  rintro e w2 ⟨⟨u, rfl, hu⟩, hb2⟩
  have hB2 : Below w.heap.size w w2 := bthen (by repeat (first | exact Below.refl _ _ | exact hB | refine Below.drew ?_ | refine below_drewN ?_ _ | refine bset ?_ (by simp <;> omega) _ | refine bal ?_ _)) hb2
  have HU2 := Lib.hid (HU.out.keep hB2)
  have HX := Lib.hid hu
  obtain ⟨-, n0, a0, ln0, c0, m0, m1, m0f, m1f, hi0⟩ := HU.out.keep hB2
  have cc := fun W (h : Below w2.heap.size w2 W) => cmp_c u _ m' m W (hu.keep h) (hi0.keep h)
  have HC := Lib.hid (cmpI_gtr m' m)
  obtain ⟨c, hc⟩ : ∃ c, cmpI m' m = c := ⟨_, rfl⟩
  rw [hc] at HC cc
  have HI := Lib.hid hi0
  obtain ⟨nu, au, cu, lu, rfl, -⟩ := hu
  unfold iv at *
  have zm := cell_lt m0
  have hBz := Below.refl w2.heap.size w2
  clear wc hc hi0 hb2
  go_wp2_with fail
  refine (cc _ (by repeat (first | exact Below.refl _ _ | exact hBz | refine Below.drew ?_ | refine below_drewN ?_ _ | refine bset ?_ (by simp <;> omega) _ | refine bal ?_ _))).mono ?_
  rintro e w3 ⟨rfl, hb3⟩
  have hb3' : Below w2.heap.size w2 w3 := bthen (by repeat (first | exact Below.refl _ _ | exact hBz | refine Below.drew ?_ | refine below_drewN ?_ _ | refine bset ?_ (by simp <;> omega) _ | refine bal ?_ _)) hb3
  have q0 : w3.cell? ⟨w2.heap.size, 0, none⟩ = some (.bool nu) := bkeep hb3 (cell_new rfl rfl)
  have q1 : w3.cell? ⟨w2.heap.size, 1, none⟩ = some (.slice au lu.length cu) := bkeep hb3 (cell_new rfl rfl)
  have zq := cell_lt q0
  replace m0f := bkeepf hb3' m0 m0f
  replace m1f := bkeepf hb3' m1 m1f
  replace m0 := bkeep hb3' m0
  replace m1 := bkeep hb3' m1
  have HX3 := Lib.hid (HX.out.keep hb3')
  have HU3 := Lib.hid (HU2.out.keep hb3')
  have hB3 := bthen hB2 hb3'
  clear cc hb3
  by_cases hcp : 0 < c
  · have hcd : decide (0 < c) = true := by simpa using hcp
    have HV3 := Lib.hid (HU3.out.put HX3.out)
    have hO := ((Out.of_below (fun q => q = ub) hB3).set (p := ⟨ub, 0, none⟩) (fun _ => rfl) (.bool nu)).set (p := ⟨ub, 1, none⟩) (fun _ => rfl) (.slice au lu.length cu)
    have hw : widS m m' = m' := by rw [widS, if_pos (HC.out.1 hcp)]
    have HW := Lib.hid hw
    clear hw
    go_wp2
    refine bodyPost_end (results_none rfl _ _ _) rfl ?_
    exact ⟨⟨_, rfl⟩, by rw [HW.out]; exact HV3.out, hO⟩
  · have hcd : decide (0 < c) = false := by simpa using hcp
    have hw : widS m m' = m := by rw [widS, if_neg fun h => hcp (HC.out.2 h)]
    have HW := Lib.hid hw
    clear hw
    go_wp2
    refine bodyPost_end (results_none rfl _ _ _) rfl ?_
    exact ⟨⟨_, rfl⟩, by rw [HW.out]; exact HU3.out, Out.of_below _ hB3⟩
set_option maxRecDepth 100000 in
set_option maxHeartbeats 2000000 in
theorem steps_c (ins regs : Int) (ca oa : Option Addr) (cl cc ol oc : Nat) (v : Value) (g : Grid) (w : World) (hv : GridV w v g) :
    Calls Tryz.prog 47 #[.agg #[.int .i64 ins, .int .i64 regs, .slice ca cl cc, .slice oa ol oc], v] w fun e w' => ∃ pb xb, e = .returned (.func (.func 90) #[] #[.pointer (some ⟨pb, 0, none⟩), .pointer (some ⟨xb, 0, none⟩)]) ∧
      (w'.cell? ⟨pb, 0, none⟩ = some (.int .i64 ins) ∧ w'.cell? ⟨pb, 1, none⟩ = some (.int .i64 regs) ∧ w'.cell? ⟨pb, 2, none⟩ = some (.slice ca cl cc) ∧ w'.cell? ⟨pb, 3, none⟩ = some (.slice oa ol oc) ∧ w'.cell? ⟨xb, 0, none⟩ = some v) ∧ Below w.heap.size w w' := by
  obtain ⟨va, vc, rfl, -⟩ := hv.view
  have hB := Below.refl w.heap.size w
  go_enter Tryz.func47, Tryz.ntmps47
  go_wp2
  go_ret
  exact ⟨_, _, rfl, ⟨by simp [go_sem], by simp [go_sem], by simp [go_sem], by simp [go_sem], by simp [go_sem]⟩, by repeat (first | exact Below.refl _ _ | exact hB | refine Below.drew ?_ | refine below_drewN ?_ _ | refine bset ?_ (by simp <;> omega) _ | refine bal ?_ _)⟩
/-- a row that is told lies in its slots -/
def AtR (code : List Ins) (G : Grid) (S : Array Value) (k : Nat) (args : Array Value) (S' : Nat → Prop) (a' : Act) (X : World) : Prop :=
  ∃ v, PRow 0 X v (toldR code G k) ∧ a' = { tmps := ((S.setIfInBounds 38 (.int .i64 (k : Int))).setIfInBounds 39 v).setIfInBounds 13 v, defers := [] }
/-- what Widest answers -/
def WidestPost (ins regs : Int) (code : List Ins) (outs : List Int) (g : Grid) (w : World) (e : Ending) (w' : World) : Prop :=
  (∃ (v : Value) (z x : Int), e = .returned (.tuple #[v, .int .i64 x]) ∧ IsInt w' v z ∧ Hid ((¬ ProgOk ins regs code outs ∧ z = 0 ∧ x = 80) ∨ (ProgOk ins regs code outs ∧ ¬ FitsG ins g ∧ z = 0 ∧ x = 5) ∨
    (ProgOk ins regs code outs ∧ FitsG ins g ∧ ∃ (k : Nat) (h : Grid), k < code.length ∧ after code (startG g regs.toNat (g.getD 0 []).length) k = some h ∧ after code (startG g regs.toNat (g.getD 0 []).length) (k + 1) = none ∧ z = 0 ∧ x = 20) ∨
    (ProgOk ins regs code outs ∧ FitsG ins g ∧ ∃ (h : Grid), after code (startG g regs.toNat (g.getD 0 []).length) code.length = some h ∧ z = widG (widG 0 g) (told code (startG g regs.toNat (g.getD 0 []).length) code.length) ∧ x = 0))) ∧ Below w.heap.size w w'
set_option maxRecDepth 100000 in
set_option maxHeartbeats 16000000 in
theorem exWidest_c (ins regs : Int) (ca oa : Option Addr) (cc oc : Nat) (code : List Ins) (outs : List Int) (vg : Value) (g : Grid) (K : Nat) (w : World) (hc : InsV w ca cc code) (ho : IntsV w oa oc outs) (hg : GridV w vg g) (hm0 : (g.getD 0 []).length ≤ 1099511627775) (hb : BdG K g) (hK : K ≤ 2147483648) :
    Calls Tryz.prog 46 #[.agg #[.int .i64 ins, .int .i64 regs, .slice ca code.length cc, .slice oa outs.length oc], vg] w (WidestPost ins regs code outs g w) := by
  have jc := fun W (h : Below w.heap.size w W) => exJudge_c ins regs ca oa cc oc code outs vg g K W (hc.keep h) (ho.keep h) (hg.keep (prs_row lims_int _ _) h) (by omega) hb hK
  have HC := Lib.hid (And.intro hc ho)
  have HG := Lib.hid hg
  have HBD := Lib.hid hb
  have HM0 := Lib.hid hm0
  obtain ⟨ga, gc, rfl, hgc, -⟩ := hg.view
  clear hc ho hg hb hm0
  have hB := Below.refl w.heap.size w
  refine calls_of_wp_marks Tryz.func46 rfl ?_
  simp only [Tryz.ntmps46, List.size_toArray, List.length_cons, List.length_nil, Nat.reduceAdd, Nat.reduceSub, Array.replicate_succ, Array.replicate_zero, List.push_toArray, List.append_toArray, List.nil_append, List.cons_append]
  go_wp2_with fail
  refine (jc _ (by repeat (first | exact Below.refl _ _ | exact hB | refine Below.drew ?_ | refine below_drewN ?_ _ | refine bset ?_ (by simp <;> omega) _ | refine bal ?_ _))).mono ?_
  rintro e w1 ⟨hp, hb1⟩
  have ht1 : Hid (typOf w1 (w.heap.size + 1 + 1) = some 48) := Lib.hid (typ_keep (typ_keep (typ_fresh (by simp)) (bal (Below.refl _ _) _)) hb1)
  have p0 : w1.cell? ⟨w.heap.size, 0, none⟩ = some (.int .i64 ins) := bkc hb1
  have zp0 := cell_lt p0
  have p1 : w1.cell? ⟨w.heap.size, 1, none⟩ = some (.int .i64 regs) := bkc hb1
  have p2 : w1.cell? ⟨w.heap.size, 2, none⟩ = some (.slice ca code.length cc) := bkc hb1
  have p3 : w1.cell? ⟨w.heap.size, 3, none⟩ = some (.slice oa outs.length oc) := bkc hb1
  have r0 : w1.cell? ⟨w.heap.size + 1, 0, none⟩ = some (.bool false) := bkc hb1
  have zr0 := cell_lt r0
  have r0f : w1.frozen? ⟨w.heap.size + 1, 0, none⟩ = false := bkcf (v := .bool false) hb1
  have r1 : w1.cell? ⟨w.heap.size + 1, 1, none⟩ = some (.slice none 0 0) := bkc hb1
  have r1f : w1.frozen? ⟨w.heap.size + 1, 1, none⟩ = false := bkcf (v := .slice none 0 0) hb1
  have m0 : w1.cell? ⟨w.heap.size + 1 + 1, 0, none⟩ = some (.bool false) := bkc hb1
  have zm0 := cell_lt m0
  have m0f : w1.frozen? ⟨w.heap.size + 1 + 1, 0, none⟩ = false := bkcf (v := .bool false) hb1
  have m1 : w1.cell? ⟨w.heap.size + 1 + 1, 1, none⟩ = some (.slice none 0 0) := bkc hb1
  have m1f : w1.frozen? ⟨w.heap.size + 1 + 1, 1, none⟩ = false := bkcf (v := .slice none 0 0) hb1
  have f0 : w1.cell? ⟨w.heap.size + 1 + 1 + 1, 0, none⟩ = some (.func (.func 88) #[] #[.pointer (some ⟨w.heap.size + 1 + 1, 0, none⟩)]) := bkc hb1
  have zf0 := cell_lt f0
  have hB : Below w.heap.size w w1 := bthen (by repeat (first | exact Below.refl _ _ | exact hB | refine Below.drew ?_ | refine below_drewN ?_ _ | refine bset ?_ (by simp <;> omega) _ | refine bal ?_ _)) hb1
  have hz : w.heap.size ≤ w1.heap.size := hB.size
  clear jc
  have hz1 : w.heap.size + 1 + 1 + 1 < w1.heap.size := cell_lt f0
  have hU1 := Lib.hid (show VarI (w.heap.size + 1 + 1) 0 w1 from ⟨ht1.out, _, _, _, _, m0, m1, m0f, m1f, isInt_zero _⟩)
  have HBB := Lib.hid hB
  clear m0 m1 m0f m1f ht1
  rcases hp with ⟨h1, rfl⟩ | ⟨h1, h2, rfl⟩ | ⟨h1, h2, k, h, h3, h4, h5, rfl⟩ | ⟨hok, hfi, h, hh, rfl⟩
  · have HNO := Lib.hid h1
    have hp := Lib.hid ((isInt_zero w1).put2 r0 r1)
    clear h1
    go_wp2
    refine ⟨.tuple #[.agg #[.bool false, .slice none 0 0], .int .i64 80], by simp [results, Tryz.results46, go_sem, *], ⟨_, 0, _, rfl, hp.out _ _, Lib.hid (.inl ⟨HNO.out, rfl, rfl⟩)⟩, bset (bset HBB.out (by show w.heap.size ≤ w.heap.size + 1; omega) _) (by show w.heap.size ≤ w.heap.size + 1; omega) _⟩
  · have HNO := Lib.hid (And.intro h1 h2)
    have hp := Lib.hid ((isInt_zero w1).put2 r0 r1)
    clear h1 h2
    go_wp2
    refine ⟨.tuple #[.agg #[.bool false, .slice none 0 0], .int .i64 5], by simp [results, Tryz.results46, go_sem, *], ⟨_, 0, _, rfl, hp.out _ _, Lib.hid (.inr (.inl ⟨HNO.out.1, HNO.out.2, rfl, rfl⟩))⟩, bset (bset HBB.out (by show w.heap.size ≤ w.heap.size + 1; omega) _) (by show w.heap.size ≤ w.heap.size + 1; omega) _⟩
  · have HNO := Lib.hid (show ProgOk ins regs code outs ∧ FitsG ins g ∧ ∃ (k : Nat) (h : Grid), k < code.length ∧ after code (startG g regs.toNat (g.getD 0 []).length) k = some h ∧ after code (startG g regs.toNat (g.getD 0 []).length) (k + 1) = none from ⟨h1, h2, k, h, h3, h4, h5⟩)
    have hp := Lib.hid ((isInt_zero w1).put2 r0 r1)
    clear h1 h2 h3 h4 h5
    go_wp2
    refine ⟨.tuple #[.agg #[.bool false, .slice none 0 0], .int .i64 20], by simp [results, Tryz.results46, go_sem, *], ⟨_, 0, _, rfl, hp.out _ _, Lib.hid (.inr (.inr (.inl ?_)))⟩, bset (bset HBB.out (by show w.heap.size ≤ w.heap.size + 1; omega) _) (by show w.heap.size ≤ w.heap.size + 1; omega) _⟩
    obtain ⟨h1, h2, k, h, h3, h4, h5⟩ := HNO.out
    exact ⟨h1, h2, k, h, h3, h4, h5, rfl, rfl⟩
  · have HOK := Lib.hid hok
    have HFI := Lib.hid hfi
    have HH := Lib.hid hh
    clear hok hfi hh
    have hlen : (g.length : Int) = ins := HFI.out.len
    have hgl : g.length ≤ 128 := by have := HOK.out.i2; have := HOK.out.r1; omega
    have HS := Lib.hid (show ∀ W, Out (fun q => q = w.heap.size + 1 + 1) w1 W → (W.cell? ⟨w.heap.size, 0, none⟩ = some (.int .i64 ins) ∧ W.cell? ⟨w.heap.size, 1, none⟩ = some (.int .i64 regs) ∧ W.cell? ⟨w.heap.size, 2, none⟩ = some (.slice ca code.length cc) ∧ W.cell? ⟨w.heap.size, 3, none⟩ = some (.slice oa outs.length oc) ∧ W.cell? ⟨w.heap.size + 1 + 1 + 1, 0, none⟩ = some (.func (.func 88) #[] #[.pointer (some ⟨w.heap.size + 1 + 1, 0, none⟩)])) ∧ W.cell? ⟨w.heap.size + 1, 0, none⟩ = some (.bool false) ∧ W.cell? ⟨w.heap.size + 1, 1, none⟩ = some (.slice none 0 0) ∧ W.frozen? ⟨w.heap.size + 1, 0, none⟩ = false ∧ W.frozen? ⟨w.heap.size + 1, 1, none⟩ = false from fun W h =>
      ⟨⟨okeep h p0 (by omega), okeep h p1 (by omega), okeep h p2 (by omega), okeep h p3 (by omega), okeep h f0 (by omega)⟩, okeep h r0 (by omega), okeep h r1 (by omega), okeepf h r0 r0f (by omega), okeepf h r1 r1f (by omega)⟩)
    have eF : Enters Tryz.prog 88 := ens Tryz.func88 (by kernel_rfl) rfl
    unfold Enters at eF
    clear p0 p1 p2 p3 r0 r1 r0f r1f f0
    go_wp2
    go_loopw [27] (fun x wr => ∃ j : Nat, j ≤ g.length ∧ x = .int .i64 j ∧ Out (fun q => q = w.heap.size + 1 + 1) w1 wr ∧ Hid (VarI (w.heap.size + 1 + 1) (widG 0 (g.take j)) wr)) (fun x _ => g.length - (intOf x).toNat)
    case atStart => exact ⟨0, Nat.zero_le _, rfl, Out.refl _ _, hU1⟩
    case round =>
      obtain ⟨j, hj, rfl, hO, hU⟩ := hrel
      have hBr : Below w.heap.size w wr := HBB.out.trans (hO.to_below (fun q hq _ e => by omega) HBB.out.size)
      obtain ⟨⟨p0, p1, p2, p3, f0⟩, r0, r1, r0f, r1f⟩ := HS.out wr hO
      have zf := cell_lt f0
      by_cases hlt : j < g.length
      · have hltI : (j : Int) < (g.length : Int) := by omega
        obtain ⟨a', c', he, -, vr⟩ := (HG.out.keep (prs_row lims_int _ _) hBr).view
        obtain ⟨rfl, -, rfl⟩ := Value.slice.inj he
        obtain ⟨b, off, u, rfl, d0, hr⟩ := vr j hlt
        have hgj : (g[j]'hlt) = g.getD j [] := by simp [hlt]
        rw [hgj] at hr
        have HW := Lib.hid (widG_take (m := 0) hlt)
        have hlr : (g.getD j []).length ≤ 1099511627775 := by rw [HFI.out.rect j hlt]; have := HFI.out.m; omega
        obtain ⟨l, hl⟩ : ∃ l, g.getD j [] = l := ⟨_, rfl⟩
        rw [hl] at hr HW hlr
        have wc := fun W (h : Below wr.heap.size wr W) => wider_c (w.heap.size + 1 + 1) (widG 0 (g.take j)) u l W (hU.out.keep h) (hr.keep lims_int h) hlr
        obtain ⟨ua, uc, rfl, -⟩ := hr
        have zd := cell_lt d0
        clear he vr hgj hl hlr r0 r1 r0f r1f p0 p1 p2 p3
        have hBw := Below.refl wr.heap.size wr
        go_wp2_with (go_at_fn 88; refine (wc _ ?_).mono ?_; (repeat (first | exact Below.refl _ _ | exact hBw | refine Below.drew ?_ | refine below_drewN ?_ _ | refine bset ?_ (by simp <;> omega) _ | refine bal ?_ _)); rintro e w5 ⟨⟨r, rfl⟩, hu5, ho5⟩; have HU5 := Lib.hid hu5; have hO5 : Out (fun q => q = w.heap.size + 1 + 1) wr w5 := (Out.of_below _ (by repeat (first | exact Below.refl _ _ | exact hBw | refine Below.drew ?_ | refine below_drewN ?_ _ | refine bset ?_ (by simp <;> omega) _ | refine bal ?_ _))).trans ho5; clear hu5 ho5)
        exact ⟨⟨j + 1, by omega, by go_num, hO.trans hO5, by rw [HW.out]; exact HU5⟩, by simp [intOf]; omega⟩
      · obtain rfl : j = g.length := by omega
        rw [List.take_length] at hU
        have sc := fun W (h : Below wr.heap.size wr W) => steps_c ins regs ca oa code.length cc outs.length oc (.slice ga g.length gc) g W ((HG.out.keep (prs_row lims_int _ _) hBr).keep (prs_row lims_int _ _) h)
        have hBw := Below.refl wr.heap.size wr
        clear r0 r1 r0f r1f
        go_wp2_with fail
        refine (sc _ (by repeat (first | exact Below.refl _ _ | exact hBw | refine Below.drew ?_ | refine below_drewN ?_ _ | refine bset ?_ (by simp <;> omega) _ | refine bal ?_ _))).mono ?_
        rintro e w8 ⟨pb, xb, rfl, hst, hb8⟩
        have hb8' : Below wr.heap.size wr w8 := bthen (by repeat (first | exact Below.refl _ _ | exact hBw | refine Below.drew ?_ | refine below_drewN ?_ _ | refine bset ?_ (by simp <;> omega) _ | refine bal ?_ _)) hb8
        have HST := Lib.hid hst
        have hO8 := hO.below hb8'
        have hU8 := Lib.hid (hU.out.keep hb8')
        have hB8 := bthen hBr hb8'
        have hz8 : w.heap.size + 1 + 1 + 1 < w8.heap.size := by have := hO8.size; omega
        have HS8 := Lib.hid (show ∀ W, Out (fun q => q = w.heap.size + 1 + 1) w8 W → _ from fun W h => HS.out W (hO8.trans h))
        have HSI := Lib.hid (show StepsIn w8.heap.size (fun q => q = w.heap.size + 1 + 1) pb xb ins regs ca oa cc oc code outs (.slice ga g.length gc) g w8 from
          ⟨HST.out.1, HST.out.2.1, HST.out.2.2.1, HST.out.2.2.2.1, HST.out.2.2.2.2, HC.out.1.keep hB8, HC.out.2.keep hB8, HG.out.keep (prs_row lims_int _ _) hB8, HM0.out, fun q hq => by subst hq; omega, Nat.le_refl _, fun b off e hl hq => by
            rcases HC.out.1 with h0 | ⟨b', off', h1, _, h3⟩
            · rw [h0] at hl; simp at hl
            · rw [e] at h1; cases h1
              have := cell_lt (h3 0 hl).c0
              omega⟩)
        obtain ⟨m, hm⟩ : ∃ m, (g.getD 0 []).length = m := ⟨_, rfl⟩
        have HMM := Lib.hid hm
        obtain ⟨R, hR⟩ : ∃ R : Nat, regs = R := ⟨regs.toNat, by have := HOK.out.i1; have := HOK.out.i2; omega⟩
        have hrect := HFI.out.rect
        rw [hm] at hrect
        have hgR : g.length ≤ R := by have := HOK.out.i2; omega
        have hm4 : m ≤ 4096 := by have := HFI.out.m; omega
        have HTL := Lib.hid (fun k (hk : k < code.length) => toldR_len (startG_rect (regs := R) hrect) (startG_len (n := m) hgR) (fun n hn => by have := (ins_of HOK.out hn).a1; have := (ins_of HOK.out hn).a0; rw [hR] at *; omega) (Nat.le_refl _) (by have := HH.out; rw [hm, hR, Int.toNat_natCast] at this; exact this) hk)
        have HTG := Lib.hid (show ToldG code (startG g regs.toNat m) code.length from ⟨Nat.le_refl _, ⟨h, by have := HH.out; rw [hm] at this; exact this⟩, fun h => absurd h (Nat.lt_irrefl _)⟩)
        have HRR := Lib.hid hR
        clear hm hrect hst sc hb8 hR
        go_wp2
        refine wp_rangeD (gf := 90) (lb := #[.pointer (some ⟨pb, 0, none⟩), .pointer (some ⟨xb, 0, none⟩)]) (by simp [Act.eval]) (enters_of Tryz.func90 (by kernel_rfl) rfl)
          (steps_yes (n0 := w8.heap.size) (S0 := fun q => q = w.heap.size + 1 + 1) (M := code.length) (K := K) HOK.out HFI.out HMM.out HTG.out HBD.out hK) (Nat.le_refl _)
          (fun W h => HSI.out.keep h) (fun _ _ _ h => by obtain ⟨v, base, rfl, _⟩ := h; rfl)
          (fun k S W => S = (fun q => q = w.heap.size + 1 + 1) ∧ Out S w8 W ∧ VarI (w.heap.size + 1 + 1) (widG (widG 0 g) (told code (startG g regs.toNat m) k)) W) (fun _ _ _ _ => False)
          (fun k S X Y h c => ⟨h.1, out_low h.2.1 (c.low h.2.1.size), h.2.2.clo c (.inr (by rw [h.1]))⟩) (fun _ _ _ _ _ h _ => h.elim)
          (fun k S X h q hq => by obtain ⟨rfl, _, hv⟩ := h; subst hq; exact ⟨_, hv.1, by decide⟩) (fun _ _ _ _ h => h.elim) ⟨rfl, Out.refl _ _, by exact hU8.out⟩
          (fun T k args S a' X => AtR code (startG g regs.toNat m) T k args S a' X) (fun k args S a' X l o o' _ h1 h2 h => by
            obtain ⟨v, hv, e⟩ := h
            exact ⟨v, hv.kp lims_int (kp_put h1 h2) trivial trivial, e⟩)
          (fun k args X q h hq => h.cells hq) ?assign ?body ?done ?stop
        case stop => intro D c k S Y _ _ h _; exact h.elim
        case assign =>
          rintro y k args S X Kk hk hi ⟨v, base, rfl, -, hv⟩ hxs hKk
          have HV := Lib.hid (hv.row.rebase (Nat.zero_le _))
          obtain ⟨va, vc, rfl⟩ := hv.ex
          gi_wp2
          refine hKk _ _ (Below.refl _ _) hi ⟨_, HV.out, by simp⟩
        case body =>
          rintro y k args S a' w6 hk ⟨rfl, hO6, hU6⟩ ⟨v, hv, rfl⟩
          obtain ⟨⟨p0, p1, p2, p3, f0⟩, -⟩ := HS8.out w6 hO6
          have HT := Lib.hid (show widG (widG 0 g) (told code (startG g regs.toNat m) (k + 1)) = widS (widG (widG 0 g) (told code (startG g regs.toNat m) k)) (widL (toldR code (startG g regs.toNat m) k)) from by rw [told_succ, widG_snoc])
          have hlr := HTL.out k hk
          rw [show R = regs.toNat by rw [HRR.out, Int.toNat_natCast]] at hlr
          have wc := fun W (h : Below w6.heap.size w6 W) => wider_c (w.heap.size + 1 + 1) (widG (widG 0 g) (told code (startG g regs.toNat m) k)) v _ W (hU6.keep h) (hv.keep lims_int h) (by omega)
          obtain ⟨va, vc, rfl, -⟩ := hv
          have zf6 := cell_lt f0
          have HO6 := Lib.hid hO6
          have HT6 := Lib.hid hU6.1
          simp only [List.setIfInBounds_toArray, List.set_cons_succ, List.set_cons_zero]
          have hBw := Below.refl w6.heap.size w6
          clear hO6 hU6 hlr p0 p1 p2 p3
          gi_wp2_with (first | (refine ⟨trivial, ?_⟩; refine CallsIn.mono (callsIn_wide.2 (wc _ ?_)) ?_; (repeat (first | exact Below.refl _ _ | exact hBw | refine Below.drew ?_ | refine below_drewN ?_ _ | refine bset ?_ (by simp <;> omega) _ | refine bal ?_ _)); rintro e w5 ⟨⟨r, rfl⟩, hu5, ho5⟩; have hO5 : Out (fun q => q = w.heap.size + 1 + 1) w6 w5 := (Out.of_below _ (by repeat (first | exact Below.refl _ _ | exact hBw | refine Below.drew ?_ | refine below_drewN ?_ _ | refine bset ?_ (by simp <;> omega) _ | refine bal ?_ _))).trans ho5; have HU5 := Lib.hid hu5; clear hu5 ho5) | fail)
          refine ⟨⟨hO5.mono fun _ _ h => .inl h, fun q hq hl => ?_⟩, _, Grew.same _ _, rfl, HO6.out.trans hO5, by rw [HT.out]; exact HU5.out⟩
          by_cases e : q = w.heap.size + 1 + 1
          · subst e; rw [HU5.out.1, HT6.out]
          · unfold typOf; rw [hO5.block q hl e]
        case done =>
          rintro D S Y hD ⟨rfl, hO6, hU6⟩ hK
          obtain ⟨-, r0, r1, r0f, r1f⟩ := HS8.out Y hO6
          obtain ⟨-, n6, a6, l6, c6, m0, m1, -, -, hi6⟩ := hU6
          have HI6 := Lib.hid hi6
          have HB6 := Lib.hid (show Below w.heap.size w Y from hB8.trans (hO6.to_below (fun q hq _ e => by omega) hB8.size))
          have hDl := (Array.getElem?_eq_some_iff.1 hK).1
          have HK := Lib.hid hK
          have HP := Lib.hid (hi6.put2 r0 r1)
          have zr := cell_lt r0
          have zm := cell_lt m0
          clear hO6 hi6 hK
          go_wp2
          refine ⟨by simp, .inl ⟨_, _, rfl, run_takeDeferred (b := D) (ds := []) ?_, ?_⟩⟩
          · exact (Below.heap_setCell _ _ _ D (by simp; omega)).trans ((Below.heap_setCell _ _ _ D (by simp; omega)).trans HK.out)
          · have hq0 := cell_put (D := D) (cell_far (p := ⟨w.heap.size + 1, 1, none⟩) (cell_here r0 (.bool n6)) (by simp) (.slice a6 l6 c6)) (by simp; omega) (.deferred none)
            have hq1 := cell_put (D := D) (cell_here (cell_far (p := ⟨w.heap.size + 1, 0, none⟩) r1 (by simp) (.bool n6)) (.slice a6 l6 c6)) (by simp; omega) (.deferred none)
            refine ⟨.tuple #[.agg #[.bool n6, .slice a6 l6 c6], .int .i64 0], by simp [results, Tryz.results46, go_sem, hq0, hq1], ⟨_, _, _, rfl, (HP.out _ _).lim ((kp_put (o := .deferred (some [])) ?_ rfl).lim trivial), Lib.hid (.inr (.inr (.inr ⟨HOK.out, HFI.out, h, HH.out, by rw [HMM.out], rfl⟩)))⟩, b_put (bset (bset HB6.out (by show w.heap.size ≤ w.heap.size + 1; omega) _) (by show w.heap.size ≤ w.heap.size + 1; omega) _) (by omega) _⟩
            exact (Below.heap_setCell _ _ _ D (by simp; omega)).trans ((Below.heap_setCell _ _ _ D (by simp; omega)).trans HK.out)
end Go.Proofs.YtannhpadoooedaaGreatDoor

/- The reference: Widest of a program over a grid. -/
namespace Go.Proofs.YtannhpadoooedaaGreatDoor
open Num
open Go.ChangeShapes Go.WideShapes Go.ChangeAt Go.RowKit
set_option linter.unusedVariables false
set_option linter.unusedSimpArgs false
attribute [local go_sem ↓] Go.wp_at_zero Go.wp_at_succ
set_option maxRecDepth 100000 in
set_option maxHeartbeats 8000000 in
theorem rWidest_c (ins : Int) (R : Nat) (ca oa : Option Addr) (cc oc : Nat) (code : List Ins) (outs : List Int) (vg : Value) (g : Grid) (m K : Nat) (h : Grid) (w : World) (hc : InsV w ca cc code) (ho : IntsV w oa oc outs) (hg : GridQ w vg g) (hok : ProgOk ins R code outs) (hle : (g.length : Int) = ins) (hr : Rect m g) (hm : (g.getD 0 []).length = m) (hm2 : m ≤ 4096) (hb : BdG K g) (hK : K ≤ 2147483648) (hh : after code (startG g R m) code.length = some h) :
    Calls Tryz.prog 49 #[.agg #[.int .i64 ins, .int .i64 (R : Int), .slice ca code.length cc, .slice oa outs.length oc], vg] w fun e w' => (∃ v, e = .returned v ∧ IsRef w' v (widG (widG 0 g) (told code (startG g R m) code.length))) ∧ Below w.heap.size w w' := by
  have fc := fun W (k : Below w.heap.size w W) => follow_c ins R ca oa cc oc code outs vg g m K W (hc.keep k) (ho.keep k) (hg.keep (prs_row lims_ref _ _) k) hok hle hr hm hm2 hb hK
  have HG := Lib.hid hg
  have HH := Lib.hid hh
  have hgl : g.length ≤ 128 := by have := hok.i2; have := hok.r1; omega
  have hcl := hok.c1
  have HRE := Lib.hid hr
  have HTL := Lib.hid (fun k (hk : k < code.length) => toldR_len (startG_rect (regs := R) hr) (startG_len (n := m) (by have := hok.i2; omega)) (fun n hn => by have := (ins_of hok hn).a1; have := (ins_of hok hn).a0; omega) (Nat.le_refl _) hh hk)
  obtain ⟨ga, gc, rfl, hgc, -⟩ := hg.view
  clear hc ho hg hok hr hm hb hh hle
  obtain ⟨G, hG⟩ : ∃ G, startG g R m = G := ⟨_, rfl⟩
  rw [hG] at fc HH HTL ⊢
  clear hG
  have hB := Below.refl w.heap.size w
  go_enter Tryz.func49, Tryz.ntmps49
  go_wp2_with fail
  refine (fc _ (by repeat (first | exact Below.refl _ _ | exact hB | refine Below.drew ?_ | refine below_drewN ?_ _ | refine bset ?_ (by simp <;> omega) _ | refine bal ?_ _))).mono ?_
  rintro e w2 hp
  have hb2 := hp.2
  obtain ⟨v, u, rfl, hv⟩ : ∃ v u, e = .returned (.tuple #[v, .int .i64 (-1), u]) ∧ Hid (IsL 31 (RRow 0) 0 w2 v (told code G code.length) ∧ ∃ a n c, u = .slice a n c) := by
    rcases hp.1 with ⟨k, s, v, h1, h2, h3, rfl, _⟩ | ⟨s, v, u, h1, rfl, h2, h3⟩
    · have := after_mono h3 (show k + 1 ≤ code.length by omega)
      rw [HH.out] at this; cases this
    · obtain ⟨a, c, hu⟩ := h3.ex
      exact ⟨v, u, rfl, Lib.hid ⟨h2.isL.rebase (Nat.zero_le _), a, _, c, hu⟩⟩
  clear hp
  have p0 : w2.cell? ⟨w.heap.size, 0, none⟩ = some (.int .i64 ins) := bkc hb2
  have zp0 := cell_lt p0
  have p1 : w2.cell? ⟨w.heap.size, 1, none⟩ = some (.int .i64 (R : Int)) := bkc hb2
  have p2 : w2.cell? ⟨w.heap.size, 2, none⟩ = some (.slice ca code.length cc) := bkc hb2
  have p3 : w2.cell? ⟨w.heap.size, 3, none⟩ = some (.slice oa outs.length oc) := bkc hb2
  have r0 : w2.cell? ⟨w.heap.size + 1, 0, none⟩ = some (.bool false) := bkc hb2
  have zr0 := cell_lt r0
  have r0f : w2.frozen? ⟨w.heap.size + 1, 0, none⟩ = false := bkcf (v := .bool false) hb2
  have r1 : w2.cell? ⟨w.heap.size + 1, 1, none⟩ = some (.slice none 0 0) := bkc hb2
  have r1f : w2.frozen? ⟨w.heap.size + 1, 1, none⟩ = false := bkcf (v := .slice none 0 0) hb2
  have hB : Below w.heap.size w w2 := bthen (by repeat (first | exact Below.refl _ _ | exact hB | refine Below.drew ?_ | refine below_drewN ?_ _ | refine bset ?_ (by simp <;> omega) _ | refine bal ?_ _)) hb2
  have hz : w.heap.size ≤ w2.heap.size := hB.size
  clear fc p0 p1 p2 p3
  obtain ⟨hvL, xa, xn, xc, hux⟩ := hv.out
  subst hux
  have HV := Lib.hid hvL
  obtain ⟨ta, tc, rfl, htc, -⟩ := hvL.view
  rw [told_len]
  have hB2 := Lib.hid hB
  clear hv hvL
  go_wp2
  refine wp_name fun w3 hW3 => ?_
  have hB3 : Below w2.heap.size w2 w3 := by rw [hW3]; exact bal (Below.refl _ _) _
  have HM3 := Lib.hid (show ∃ n a ln c, w3.cell? ⟨w2.heap.size, 0, none⟩ = some (.bool n) ∧ w3.cell? ⟨w2.heap.size, 1, none⟩ = some (.slice a ln c) ∧ w3.frozen? ⟨w2.heap.size, 0, none⟩ = false ∧ w3.frozen? ⟨w2.heap.size, 1, none⟩ = false ∧ IsRef w3 (.agg #[.bool n, .slice a ln c]) (widG 0 ((g ++ told code G code.length).take 0)) from by
    rw [hW3]
    exact ⟨false, none, 0, 0, cell_new rfl rfl, cell_new rfl rfl, by simp [go_sem], by simp [go_sem], isRef_zero _⟩)
  clear hW3
  have HAP := Lib.hid (show (g ++ told code G code.length).length = g.length + code.length by rw [List.length_append, told_len])
  go_loopw [9] (fun x wr => ∃ j : Nat, j ≤ g.length + code.length ∧ x = .int .i64 j ∧ Below w2.heap.size w2 wr ∧ Hid (∃ n a ln c, wr.cell? ⟨w2.heap.size, 0, none⟩ = some (.bool n) ∧ wr.cell? ⟨w2.heap.size, 1, none⟩ = some (.slice a ln c) ∧ wr.frozen? ⟨w2.heap.size, 0, none⟩ = false ∧ wr.frozen? ⟨w2.heap.size, 1, none⟩ = false ∧ IsRef wr (.agg #[.bool n, .slice a ln c]) (widG 0 ((g ++ told code G code.length).take j)))) (fun x _ => g.length + code.length - (intOf x).toNat)
  case atStart => exact ⟨0, Nat.zero_le _, rfl, hB3, HM3⟩
  case round =>
    obtain ⟨j, hj, rfl, hBr, hM⟩ := hrel
    obtain ⟨n0, a0, ln0, c0, m0, m1, m0f, m1f, hi0⟩ := hM.out
    have HI0 := Lib.hid hi0
    have zm := cell_lt m0
    clear hi0 hM
    by_cases hlt : j < g.length + code.length
    · have hltI : (j : Int) < (g.length : Int) + (code.length : Int) := by omega
      have HW := Lib.hid (widG_take (m := 0) (g := g ++ told code G code.length) (j := j) (by rw [HAP.out]; exact hlt))
      obtain ⟨m, hm⟩ : ∃ m, widG 0 ((g ++ told code G code.length).take j) = m := ⟨_, rfl⟩
      rw [hm] at HW HI0
      clear hm
      by_cases hgj : j < g.length
      · have hgjI : (j : Int) < (g.length : Int) := by omega
        obtain ⟨a', c', he, -, vr⟩ := (HG.out.keep (prs_row lims_ref _ _) (hB2.out.trans (hBr.mono hB2.out.size))).view
        obtain ⟨rfl, -, rfl⟩ := Value.slice.inj he
        obtain ⟨b, off, u, rfl, d0, hr⟩ := vr j hgj
        have zd := cell_lt d0
        rw [show (g ++ told code G code.length).getD j [] = g[j] by simp [List.getD_eq_getElem?_getD, List.getElem?_append_left hgj, hgj]] at HW
        obtain ⟨l, hl⟩ : ∃ l, g[j] = l := ⟨_, rfl⟩
        have hlr : l.length ≤ 1099511627775 := by rw [← hl, show g[j] = g.getD j [] by simp [hgj], HRE.out j hgj]; omega
        rw [hl] at hr HW
        have wc := fun W (h : Below wr.heap.size wr W) => rrowWidest_c u l W (hr.keep lims_ref h) hlr
        obtain ⟨z, hz⟩ : ∃ z, widL l = z := ⟨_, rfl⟩
        rw [hz] at HW wc
        clear he vr hl hlr hz
        obtain ⟨ua, uc, rfl, -⟩ := hr
        have hBw := Below.refl wr.heap.size wr
        go_wp2_with fail
        refine (wc _ (by repeat (first | exact Below.refl _ _ | exact hBw | refine Below.drew ?_ | refine below_drewN ?_ _ | refine bset ?_ (by simp <;> omega) _ | refine bal ?_ _))).mono ?_
        rintro e w5 ⟨⟨u, rfl, hu⟩, hb5⟩
        have hB5 : Below wr.heap.size wr w5 := bthen (by repeat (first | exact Below.refl _ _ | exact hBw | refine Below.drew ?_ | refine below_drewN ?_ _ | refine bset ?_ (by simp <;> omega) _ | refine bal ?_ _)) hb5
        have HU := Lib.hid hu
        have cc := fun W (h : Below w5.heap.size w5 W) => rcmp_c u _ z m W (hu.keep h) ((HI0.out.keep hB5).keep h)
        have HC := Lib.hid (cmpI_gtr z m)
        obtain ⟨c, hc⟩ : ∃ c, cmpI z m = c := ⟨_, rfl⟩
        rw [hc] at HC cc
        obtain ⟨n5, a5, c5, l5, rfl, -⟩ := hu
        unfold iv at *
        replace m0f := bkeepf hB5 m0 m0f
        replace m1f := bkeepf hB5 m1 m1f
        replace m0 := bkeep hB5 m0
        replace m1 := bkeep hB5 m1
        have zm5 := cell_lt m0
        have hBz := Below.refl w5.heap.size w5
        clear wc hc hb5
        go_wp2_with fail
        refine (cc _ (by repeat (first | exact Below.refl _ _ | exact hBz | refine Below.drew ?_ | refine below_drewN ?_ _ | refine bset ?_ (by simp <;> omega) _ | refine bal ?_ _))).mono ?_
        rintro e w6 ⟨rfl, hb6⟩
        have hB6 : Below w5.heap.size w5 w6 := bthen (by repeat (first | exact Below.refl _ _ | exact hBz | refine Below.drew ?_ | refine below_drewN ?_ _ | refine bset ?_ (by simp <;> omega) _ | refine bal ?_ _)) hb6
        have q0 : w6.cell? ⟨w5.heap.size, 0, none⟩ = some (.bool n5) := bkeep hb6 (cell_new rfl rfl)
        have q1 : w6.cell? ⟨w5.heap.size, 1, none⟩ = some (.slice a5 l5.length c5) := bkeep hb6 (cell_new rfl rfl)
        have zq := cell_lt q0
        replace m0f := bkeepf hB6 m0 m0f
        replace m1f := bkeepf hB6 m1 m1f
        replace m0 := bkeep hB6 m0
        replace m1 := bkeep hB6 m1
        have HI6 := Lib.hid ((HI0.out.keep hB5).keep hB6)
        have HU6 := Lib.hid (HU.out.keep hB6)
        have hBr6 := bthen hBr (bthen hB5 hB6)
        clear cc hb6
        by_cases hcp : 0 < c
        · have hcd : decide (0 < c) = true := by simpa using hcp
          rw [widS, if_pos (HC.out.1 hcp)] at HW
          go_wp2
          refine ⟨⟨j + 1, by omega, by go_num, bset (bset hBr6 (Nat.le_refl _) _) (Nat.le_refl _) _, Lib.hid ⟨n5, a5, l5.length, c5, ?_, ?_, ?_, ?_, ?_⟩⟩, by simp [intOf]; omega⟩
          · exact cell_far (cell_here m0 _) (by simp) _
          · exact cell_here (cell_far m1 (by simp) _) _
          · rw [World.frozen?_setCell, World.frozen?_setCell]; exact m0f
          · rw [World.frozen?_setCell, World.frozen?_setCell]; exact m1f
          · rw [HW.out]; exact HU6.out.put2 m0 m1 _ _
        · have hcd : decide (0 < c) = false := by simpa using hcp
          rw [widS, if_neg (fun h => hcp (HC.out.2 h))] at HW
          go_wp2
          exact ⟨⟨j + 1, by omega, by go_num, hBr6, Lib.hid ⟨_, _, _, _, m0, m1, m0f, m1f, by rw [HW.out]; exact HI6.out⟩⟩, by simp [intOf]; omega⟩
      · have hgjI : ¬ (j : Int) < (g.length : Int) := by omega
        obtain ⟨i, hji⟩ : ∃ i, j = g.length + i := ⟨j - g.length, by omega⟩
        have hi2 : i < code.length := by omega
        have hi2' : i < (told code G code.length).length := by rw [told_len]; exact hi2
        have hiI : (j : Int) - (g.length : Int) = (i : Int) := by omega
        obtain ⟨a', c', he, -, vr⟩ := (HV.out.keep (prs_row lims_ref _ _) hBr).view
        obtain ⟨rfl, -, rfl⟩ := Value.slice.inj he
        obtain ⟨b, off, u, rfl, d0, hr⟩ := vr i hi2'
        have zd := cell_lt d0
        rw [show (g ++ told code G code.length).getD j [] = (told code G code.length)[i] by subst hji; simp [List.getD_eq_getElem?_getD, List.getElem?_append_right, hi2']] at HW
        obtain ⟨l, hl⟩ : ∃ l, (told code G code.length)[i] = l := ⟨_, rfl⟩
        have hlr : l.length ≤ 1099511627775 := by rw [← hl, show (told code G code.length)[i] = toldR code G i by simp [told], HTL.out i hi2]; omega
        rw [hl] at hr HW
        have wc := fun W (h : Below wr.heap.size wr W) => rrowWidest_c u l W (hr.keep lims_ref h) hlr
        obtain ⟨z, hz⟩ : ∃ z, widL l = z := ⟨_, rfl⟩
        rw [hz] at HW wc
        have hiC : (i : Int) < (code.length : Int) := by omega
        clear he vr hl hlr hz hi2' hji
        obtain ⟨ua, uc, rfl, -⟩ := hr
        have hBw := Below.refl wr.heap.size wr
        go_wp2_with fail
        refine (wc _ (by repeat (first | exact Below.refl _ _ | exact hBw | refine Below.drew ?_ | refine below_drewN ?_ _ | refine bset ?_ (by simp <;> omega) _ | refine bal ?_ _))).mono ?_
        rintro e w5 ⟨⟨u, rfl, hu⟩, hb5⟩
        have hB5 : Below wr.heap.size wr w5 := bthen (by repeat (first | exact Below.refl _ _ | exact hBw | refine Below.drew ?_ | refine below_drewN ?_ _ | refine bset ?_ (by simp <;> omega) _ | refine bal ?_ _)) hb5
        have HU := Lib.hid hu
        have cc := fun W (h : Below w5.heap.size w5 W) => rcmp_c u _ z m W (hu.keep h) ((HI0.out.keep hB5).keep h)
        have HC := Lib.hid (cmpI_gtr z m)
        obtain ⟨c, hc⟩ : ∃ c, cmpI z m = c := ⟨_, rfl⟩
        rw [hc] at HC cc
        obtain ⟨n5, a5, c5, l5, rfl, -⟩ := hu
        unfold iv at *
        replace m0f := bkeepf hB5 m0 m0f
        replace m1f := bkeepf hB5 m1 m1f
        replace m0 := bkeep hB5 m0
        replace m1 := bkeep hB5 m1
        have zm5 := cell_lt m0
        have hBz := Below.refl w5.heap.size w5
        clear wc hc hb5
        go_wp2_with fail
        refine (cc _ (by repeat (first | exact Below.refl _ _ | exact hBz | refine Below.drew ?_ | refine below_drewN ?_ _ | refine bset ?_ (by simp <;> omega) _ | refine bal ?_ _))).mono ?_
        rintro e w6 ⟨rfl, hb6⟩
        have hB6 : Below w5.heap.size w5 w6 := bthen (by repeat (first | exact Below.refl _ _ | exact hBz | refine Below.drew ?_ | refine below_drewN ?_ _ | refine bset ?_ (by simp <;> omega) _ | refine bal ?_ _)) hb6
        have q0 : w6.cell? ⟨w5.heap.size, 0, none⟩ = some (.bool n5) := bkeep hb6 (cell_new rfl rfl)
        have q1 : w6.cell? ⟨w5.heap.size, 1, none⟩ = some (.slice a5 l5.length c5) := bkeep hb6 (cell_new rfl rfl)
        have zq := cell_lt q0
        replace m0f := bkeepf hB6 m0 m0f
        replace m1f := bkeepf hB6 m1 m1f
        replace m0 := bkeep hB6 m0
        replace m1 := bkeep hB6 m1
        have HI6 := Lib.hid ((HI0.out.keep hB5).keep hB6)
        have HU6 := Lib.hid (HU.out.keep hB6)
        have hBr6 := bthen hBr (bthen hB5 hB6)
        clear cc hb6
        by_cases hcp : 0 < c
        · have hcd : decide (0 < c) = true := by simpa using hcp
          rw [widS, if_pos (HC.out.1 hcp)] at HW
          go_wp2
          refine ⟨⟨j + 1, by omega, by go_num, bset (bset hBr6 (Nat.le_refl _) _) (Nat.le_refl _) _, Lib.hid ⟨n5, a5, l5.length, c5, ?_, ?_, ?_, ?_, ?_⟩⟩, by simp [intOf]; omega⟩
          · exact cell_far (cell_here m0 _) (by simp) _
          · exact cell_here (cell_far m1 (by simp) _) _
          · rw [World.frozen?_setCell, World.frozen?_setCell]; exact m0f
          · rw [World.frozen?_setCell, World.frozen?_setCell]; exact m1f
          · rw [HW.out]; exact HU6.out.put2 m0 m1 _ _
        · have hcd : decide (0 < c) = false := by simpa using hcp
          rw [widS, if_neg (fun h => hcp (HC.out.2 h))] at HW
          go_wp2
          exact ⟨⟨j + 1, by omega, by go_num, hBr6, Lib.hid ⟨_, _, _, _, m0, m1, m0f, m1f, by rw [HW.out]; exact HI6.out⟩⟩, by simp [intOf]; omega⟩
    · obtain rfl : j = g.length + code.length := by omega
      rw [← HAP.out, List.take_length, widG_app] at HI0
      replace r0f := bkeepf hBr r0 r0f
      replace r1f := bkeepf hBr r1 r1f
      replace r0 := bkeep hBr r0
      replace r1 := bkeep hBr r1
      have hp := Lib.hid (HI0.out.put2 r0 r1)
      have hBB := bthen hB2.out hBr
      go_wp2
      refine bodyPost_ret (v := .agg #[.bool n0, .slice a0 ln0 c0]) (by simp [results, Tryz.results49, go_sem, *]) rfl ⟨⟨_, rfl, hp.out _ _⟩, ?_⟩
      repeat (first | exact Below.refl _ _ | exact hBB | refine Below.drew ?_ | refine below_drewN ?_ _ | refine bset ?_ (by simp <;> omega) _ | refine bal ?_ _)
end Go.Proofs.YtannhpadoooedaaGreatDoor

/- ExactFollows: what exact's functions answer, told together; helpers. -/
namespace Go.Proofs.YtannhpadoooedaaGreatDoor
open Num
open Go.ChangeShapes Go.WideShapes Go.ChangeAt Go.RowKit
set_option linter.unusedVariables false
set_option linter.unusedSimpArgs false
/-- the verdict: which instruction fails, with which number -/
def Verdict (ins regs : Int) (code : List Ins) (outs : List Int) (g : Grid) (q x : Int) : Prop :=
  (¬ ProgOk ins regs code outs ∧ q = 0 ∧ x = 80) ∨ (ProgOk ins regs code outs ∧ ¬ FitsG ins g ∧ q = 0 ∧ x = 5) ∨
  (ProgOk ins regs code outs ∧ FitsG ins g ∧ ∃ (k : Nat) (h : Grid), k < code.length ∧ after code (startG g regs.toNat (g.getD 0 []).length) k = some h ∧ after code (startG g regs.toNat (g.getD 0 []).length) (k + 1) = none ∧ q = k ∧ x = 20) ∨
  (ProgOk ins regs code outs ∧ FitsG ins g ∧ (∃ h : Grid, after code (startG g regs.toNat (g.getD 0 []).length) code.length = some h) ∧ q = 0 ∧ x = 0)
theorem fail_uniq {code : List Ins} {g h h' : Grid} {k k' : Nat} (e1 : after code g k = some h) (e2 : after code g (k + 1) = none) (e3 : after code g k' = some h') (e4 : after code g (k' + 1) = none) : k = k' := by
  rcases Nat.lt_trichotomy k k' with h1 | h1 | h1
  · rw [after_mono e2 (show k + 1 ≤ k' by omega)] at e3; cases e3
  · exact h1
  · rw [after_mono e4 (show k' + 1 ≤ k by omega)] at e1; cases e1
theorem Verdict.uniq {ins regs : Int} {code : List Ins} {outs : List Int} {g : Grid} {q x q' x' : Int} (h : Verdict ins regs code outs g q x) (h' : Verdict ins regs code outs g q' x') : q' = q ∧ x' = x := by
  rcases h with ⟨h1, rfl, rfl⟩ | ⟨h1, h2, rfl, rfl⟩ | ⟨h1, h2, k, s, h3, h4, h5, rfl, rfl⟩ | ⟨h1, h2, ⟨s, h3⟩, rfl, rfl⟩ <;>
    rcases h' with ⟨k1, rfl, rfl⟩ | ⟨k1, k2, rfl, rfl⟩ | ⟨k1, k2, k', s', k3, k4, k5, rfl, rfl⟩ | ⟨k1, k2, ⟨s', k3⟩, rfl, rfl⟩ <;>
    first
    | exact ⟨rfl, rfl⟩
    | exact absurd k1 h1
    | exact absurd h1 k1
    | exact absurd k2 h2
    | exact absurd h2 k2
    | exact ⟨by rw [fail_uniq h4 h5 k4 k5], rfl⟩
    | (rw [after_mono h5 (show k + 1 ≤ code.length by omega)] at k3; cases k3)
    | (rw [after_mono k5 (show k' + 1 ≤ code.length by omega)] at h3; cases h3)
/-- what Rows answers, as slots -/
def RowsV (ins regs : Int) (code : List Ins) (outs : List Int) (g : Grid) (w w' : World) (a : Option Addr) (n c : Nat) (q x : Int) : Prop :=
  Verdict ins regs code outs g q x ∧ (x ≠ 0 → n = 0) ∧ (x = 0 → ∃ (h : Grid) (gs : List (List Int × Nat × Nat)), after code (startG g regs.toNat (g.getD 0 []).length) code.length = some h ∧ n = outs.length ∧ gs.map (·.1) = outsG outs h ∧ AscLH gs ∧ (∀ y ∈ gs, w.heap.size ≤ y.2.1) ∧ OwnL 29 RowLH w w' (.slice a n c) gs)
theorem rowsAll {ins regs : Int} {code : List Ins} {outs : List Int} {g : Grid} {w : World} {e : Ending} {w' : World} (h : ExRowsPostX ins regs code outs g w e w') :
    (∃ (a : Option Addr) (n c : Nat) (q x : Int), e = .returned (.tuple #[.slice a n c, .int .i64 q, .int .i64 x]) ∧ Hid (RowsV ins regs code outs g w w' a n c q x)) ∧ Below w.heap.size w w' := by
  obtain ⟨h, hB⟩ := h
  refine ⟨?_, hB⟩
  rcases h with ⟨h1, rfl⟩ | ⟨h1, h2, rfl⟩ | ⟨h1, h2, k, s, h3, h4, h5, rfl⟩ | ⟨h1, h2, s, v, gs, h3, rfl, h5, h6, h7, h8⟩
  · exact ⟨_, _, _, _, _, rfl, Lib.hid ⟨.inl ⟨h1, rfl, rfl⟩, fun _ => rfl, fun h => by cases h⟩⟩
  · exact ⟨_, _, _, _, _, rfl, Lib.hid ⟨.inr (.inl ⟨h1, h2, rfl, rfl⟩), fun _ => rfl, fun h => by cases h⟩⟩
  · exact ⟨_, _, _, _, _, rfl, Lib.hid ⟨.inr (.inr (.inl ⟨h1, h2, k, s, h3, h4, h5, rfl, rfl⟩)), fun _ => rfl, fun h => by cases h⟩⟩
  · obtain ⟨a, c, rfl⟩ := h8.ex
    refine ⟨_, _, _, _, _, rfl, Lib.hid ⟨.inr (.inr (.inr ⟨h1, h2, ⟨s, h3⟩, rfl, rfl⟩)), fun h => absurd rfl h, fun _ => ⟨s, gs, h3, ?_, h5, h6, h7, h8⟩⟩⟩
    have := congrArg List.length h5
    simpa [outsG] using this
theorem judgeV {ins regs : Int} {code : List Ins} {outs : List Int} {g : Grid} {w : World} {e : Ending} {w' : World} (h : JudgePost ins regs code outs g w e w') :
    (∃ (q x : Int), e = .returned (.tuple #[.int .i64 q, .int .i64 x]) ∧ Hid (Verdict ins regs code outs g q x)) ∧ Below w.heap.size w w' := by
  obtain ⟨h, hB⟩ := h
  refine ⟨?_, hB⟩
  rcases h with ⟨h1, rfl⟩ | ⟨h1, h2, rfl⟩ | ⟨h1, h2, k, s, h3, h4, h5, rfl⟩ | ⟨h1, h2, s, h3, rfl⟩
  · exact ⟨_, _, rfl, Lib.hid (.inl ⟨h1, rfl, rfl⟩)⟩
  · exact ⟨_, _, rfl, Lib.hid (.inr (.inl ⟨h1, h2, rfl, rfl⟩))⟩
  · exact ⟨_, _, rfl, Lib.hid (.inr (.inr (.inl ⟨h1, h2, k, s, h3, h4, h5, rfl, rfl⟩)))⟩
  · exact ⟨_, _, rfl, Lib.hid (.inr (.inr (.inr ⟨h1, h2, ⟨s, h3⟩, rfl, rfl⟩)))⟩
theorem widestV {ins regs : Int} {code : List Ins} {outs : List Int} {g : Grid} {w : World} {e : Ending} {w' : World} (h : WidestPost ins regs code outs g w e w') :
    (∃ (v : Value) (z q x : Int), e = .returned (.tuple #[v, .int .i64 x]) ∧ IsInt w' v z ∧ Hid (Verdict ins regs code outs g q x ∧ (x ≠ 0 → z = 0) ∧ (x = 0 → z = widG (widG 0 g) (told code (startG g regs.toNat (g.getD 0 []).length) code.length)))) ∧ Below w.heap.size w w' := by
  obtain ⟨⟨v, z, x, rfl, hz, h⟩, hB⟩ := h
  refine ⟨?_, hB⟩
  rcases h.out with ⟨h1, rfl, rfl⟩ | ⟨h1, h2, rfl, rfl⟩ | ⟨h1, h2, k, s, h3, h4, h5, rfl, rfl⟩ | ⟨h1, h2, s, h3, rfl, rfl⟩
  · exact ⟨v, _, 0, _, rfl, hz, Lib.hid ⟨.inl ⟨h1, rfl, rfl⟩, fun _ => rfl, fun h => by cases h⟩⟩
  · exact ⟨v, _, 0, _, rfl, hz, Lib.hid ⟨.inr (.inl ⟨h1, h2, rfl, rfl⟩), fun _ => rfl, fun h => by cases h⟩⟩
  · exact ⟨v, _, k, _, rfl, hz, Lib.hid ⟨.inr (.inr (.inl ⟨h1, h2, k, s, h3, h4, h5, rfl, rfl⟩)), fun _ => rfl, fun h => by cases h⟩⟩
  · exact ⟨v, _, 0, _, rfl, hz, Lib.hid ⟨.inr (.inr (.inr ⟨h1, h2, ⟨s, h3⟩, rfl, rfl⟩)), fun h => absurd rfl h, fun _ => rfl⟩⟩
/-- Follow's answer: rows that were told, an int, rows -/
theorem followV {code : List Ins} {outs : List Int} {G : Grid} {w : World} {e : Ending} {w' : World} (h : FollowP code outs G w e w') :
    (∃ (M : Nat) (a : Option Addr) (c : Nat) (q : Int) (a' : Option Addr) (n' c' : Nat), e = .returned (.tuple #[.slice a M c, .int .i64 q, .slice a' n' c']) ∧ Hid (ToldG code G M ∧ IsL 31 (RRow 0) 0 w' (.slice a M c) (told code G M) ∧
      ((M < code.length ∧ after code G (M + 1) = none ∧ q = M) ∨ (M = code.length ∧ q = -1 ∧ n' = outs.length ∧ ∃ h, after code G code.length = some h ∧ IsL 31 (RRow 0) 0 w' (.slice a' n' c') (outsG outs h)))) ∧ Below w.heap.size w w') := by
  obtain ⟨h, hB⟩ := h
  rcases h with ⟨m, h, v, h1, h2, h3, rfl, h4⟩ | ⟨h, v, u, h1, rfl, h2, h3⟩
  · obtain ⟨a, c, hv⟩ := h4.ex
    rw [told_len] at hv
    subst hv
    exact ⟨m, a, c, m, none, 0, 0, rfl, Lib.hid ⟨⟨by omega, ⟨h, h2⟩, fun _ => h3⟩, h4.isL.rebase (Nat.zero_le _), .inl ⟨h1, h3, rfl⟩⟩, hB⟩
  · obtain ⟨a, c, hv⟩ := h2.ex
    rw [told_len] at hv
    subst hv
    obtain ⟨a', c', rfl⟩ := h3.ex
    exact ⟨code.length, a, c, -1, a', _, c', rfl, Lib.hid ⟨⟨Nat.le_refl _, ⟨h, h1⟩, fun h => absurd h (Nat.lt_irrefl _)⟩, h2.isL.rebase (Nat.zero_le _), .inr ⟨rfl, rfl, by simp [outsG], h, h1, h3.isL.rebase (Nat.zero_le _)⟩⟩, hB⟩
/-- blocks keep their types -/
def Ty (w w' : World) : Prop := ∀ q, q < w.heap.size → typOf w' q = typOf w q
theorem Ty.refl (w : World) : Ty w w := fun _ _ => rfl
theorem Ty.of_below {a b : World} (h : Below a.heap.size a b) : Ty a b := fun q hq => by unfold typOf; rw [h.block q hq]
theorem Ty.trans {a b c : World} (h : Ty a b) (k : Ty b c) (hs : a.heap.size ≤ b.heap.size) : Ty a c := fun q hq => (k q (Nat.lt_of_lt_of_le hq hs)).trans (h q hq)
theorem Ty.set {a b : World} (h : Ty a b) (p : Addr) (u : Value) : Ty a (b.setCell p u) := fun q hq => by rw [typ_set]; exact h q hq
/-- rows of a told row are bounded -/
theorem toldR_bd {code : List Ins} {G h : Grid} {K M k : Nat} (hb : BdG K G) (hc : Cs code) (hM : M ≤ code.length) (e : after code G M = some h) (hk : k < M) (ht : (code.getD k default).to.toNat < G.length) : ∀ j, Bd (K + 65 * (k + 1)) ((toldR code G k).getD j 0) := by
  cases e1 : after code G k with
  | none => rw [after_mono e1 (show k ≤ M by omega)] at e; cases e
  | some g1 =>
    cases e2 : stepR (code.getD k default) (g1.getD (code.getD k default).a.toNat []) (g1.getD (code.getD k default).b.toNat []) with
    | none =>
      have : after code G (k + 1) = none := by rw [after, e1, Option.bind_some, e2]; rfl
      rw [after_mono this (show k + 1 ≤ M by omega)] at e; cases e
    | some r =>
      have e3 : after code G (k + 1) = some (g1.set (code.getD k default).to.toNat r) := by rw [after, e1, Option.bind_some, e2]; rfl
      have hbd := after_bd hb hc (show k + 1 ≤ code.length by omega) e3
      rw [toldR_eq e1 e2]
      intro j
      have := hbd (code.getD k default).to.toNat j
      rwa [show (g1.set (code.getD k default).to.toNat r).getD (code.getD k default).to.toNat [] = r by
        rw [List.getD_eq_getElem?_getD, List.getElem?_set_self (by rw [after_len e1]; exact ht)]; rfl] at this
theorem bd_abs {k : Nat} {x : Int} (h : Bd k x) : Bd k (x.natAbs : Int) := by unfold Bd at *; simpa using h
theorem widS_bd {k : Nat} {m x : Int} (h1 : Bd k m) (h2 : Bd k x) : Bd k (widS m x) := by unfold widS; split <;> assumption
theorem widL_bd {k : Nat} {l : List Int} (h : ∀ j, Bd k (l.getD j 0)) : Bd k (widL l) := by
  have key : ∀ (l : List Int) (m : Int), Bd k m → (∀ x ∈ l, Bd k x) → Bd k (l.foldl (fun m x => widS m (x.natAbs : Int)) m) := by
    intro l
    induction l with
    | nil => intro m hm _; exact hm
    | cons x l ih => intro m hm hl; exact ih _ (widS_bd hm (bd_abs (hl x (by simp)))) fun y hy => hl y (by simp [hy])
  refine key l 0 bd_zero fun x hx => ?_
  obtain ⟨j, hj, rfl⟩ := List.getElem_of_mem hx
  have := h j
  simpa [hj] using this
theorem widG_bd {k : Nat} {g : Grid} {m : Int} (hm : Bd k m) (h : ∀ l ∈ g, ∀ j, Bd k (l.getD j 0)) : Bd k (widG m g) := by
  induction g generalizing m with
  | nil => exact hm
  | cons l g ih => exact ih (widS_bd hm (widL_bd (h l (by simp)))) fun y hy => h y (by simp [hy])
theorem toldR_bd' {code : List Ins} {G h : Grid} {K M : Nat} (hb : BdG K G) (hc : Cs code) (hM : M ≤ code.length) (e : after code G M = some h) (ht : ∀ k, k < code.length → (code.getD k default).to.toNat < G.length) : ∀ l ∈ told code G M, ∀ j, Bd (K + 65 * code.length) (l.getD j 0) := by
  intro l hl j
  unfold told at hl
  obtain ⟨k, hk, rfl⟩ := List.mem_map.1 hl
  have hk := List.mem_range.1 hk
  exact (toldR_bd hb hc hM e hk (ht k (by omega)) j).mono (by
    have := Nat.mul_le_mul_left 65 (show k + 1 ≤ code.length by omega)
    omega)
/-- a counter in memory, and nothing else written since w0 -/
structure RunV (w0 : World) (ib k : Nat) (W : World) : Prop where
  i0 : W.cell? ⟨ib, 0, none⟩ = some (.int .i64 (k : Int))
  i0f : W.frozen? ⟨ib, 0, none⟩ = false
  ty : typOf W ib = some 3
  out : Out (fun q => q = ib) w0 W
theorem RunV.clo {w0 X Y : World} {ib k : Nat} {S : Nat → Prop} (h : RunV w0 ib k X) (hi : ib < w0.heap.size) (c : Clo w0.heap.size S X Y) : RunV w0 ib k Y :=
  ⟨c.cell (.inl hi) h.i0, c.frz (.inl hi) h.i0 h.i0f, c.typ (.inl hi) h.ty, out_low h.out (c.low h.out.size)⟩
theorem WRow.full {base m : Nat} {w : World} {a : Option Addr} {n c : Nat} (h : WRow base w (.slice a n c) m) : WRow base w (.slice a c c) c := by
  rcases h with ⟨h, rfl⟩ | ⟨g, cap, cs, h, h1, h2, h3, h4, h5⟩
  · cases h; exact .inl ⟨rfl, rfl⟩
  · cases h; exact .inr ⟨g, c, cs, rfl, h1, h2, Nat.le_refl _, h4, h5⟩
theorem RowO.out {base : Nat} {w w' : World} {v : Value} {l : List Int} {X : Nat → Prop} (h : RowO IsInt 48 base w v l) (ho : Out X w w') (hx : ∀ q, rowBlk v = some q → ¬ X q) (hl : Lim w w') : RowO IsInt 48 base w' v l := by
  obtain ⟨xs, ⟨h0, h1⟩, h2⟩ := h
  refine ⟨xs, ⟨h0, ?_⟩, fun k hk => by obtain ⟨nb, a, len, c, k1, k2, k3⟩ := h2 k hk; exact ⟨nb, a, len, c, k1, k2, lims_int _ _ _ _ k3 hl⟩⟩
  rcases h1 with h1 | ⟨g, cap, cur, rfl, hg, hh, r⟩
  · exact .inl h1
  · exact .inr ⟨g, cap, cur, rfl, hg, by rw [ho.block g (Array.getElem?_eq_some_iff.1 hh).1 (hx g rfl)]; exact hh, r⟩
/-- the blocks of the first i rows of a list -/
def XO (W : World) (a : Option Addr) (i : Nat) (q : Nat) : Prop := ∃ k u b off, k < i ∧ a = some ⟨b, off, none⟩ ∧ W.cell? ⟨b, off + k, none⟩ = some u ∧ rowBlk u = some q
theorem XO.mono {W : World} {a : Option Addr} {i j q : Nat} (h : XO W a i q) (hij : i ≤ j) : XO W a j q := by
  obtain ⟨k, u, b, off, h1, h2⟩ := h
  exact ⟨k, u, b, off, by omega, h2⟩
section
variable {W : World} {a : Option Addr} {n c B i q : Nat} {gs : List (List Int × Nat × Nat)}
theorem XO.is (h : XO W a i q) (hL : IsL 29 RowLH 0 W (.slice a n c) gs) (hi : i ≤ gs.length) : ∃ k, ∃ hk : k < gs.length, k < i ∧ gs[k].2.1 ≤ q ∧ gs[k].2.2 = q + 1 ∧ typOf W q = some 48 := by
  obtain ⟨k, u, b, off, h1, rfl, h3, h4⟩ := h
  obtain ⟨a', c', he, -, vr⟩ := hL.view
  have hk : k < gs.length := by omega
  obtain ⟨b', off', u', e', hc, hr⟩ := vr k hk
  cases he
  cases e'
  rw [h3] at hc
  cases hc
  exact ⟨k, hk, h1, (rowO_blk hr.1 h4).1, by rw [hr.2, h4]; rfl, (rowO_blk hr.1 h4).2⟩
end
theorem isL_ty {α : Type} {T : TypeId} {Pr : World → Value → α → Prop} {base n c : Nat} {w : World} {p : Addr} {g : List α} (h : IsL T Pr base w (.slice (some p) n c) g) (h0 : 0 < g.length) : typOf w p.block = some T := by
  obtain ⟨a', c', he, _, _, h4⟩ := h
  cases he
  rcases h4 with h4 | ⟨b, off, e, _, ht, _⟩
  · rw [h4] at h0; simp at h0
  · cases e; exact ht
/-- a told row in its slots -/
def AtT (n0 : Nat) (T : Nat → List Int) (ib : Nat) (V : Array Value) (k : Nat) (args : Array Value) (S : Nat → Prop) (a' : Act) (X : World) : Prop :=
  ∃ v base, args = #[.int .i64 (k : Int), v] ∧ n0 ≤ base ∧ RowO IsInt 48 base X v (T k) ∧ (∀ q, rowBlk v = some q → q ≠ ib) ∧ a' = { tmps := ((((V.setIfInBounds 131 (.int .i64 (k : Int))).setIfInBounds 132 v).setIfInBounds 20 (.int .i64 (k : Int))).setIfInBounds 21 v), defers := [] }
theorem AtT.put {n0 : Nat} {T : Nat → List Int} {ib : Nat} {V : Array Value} {k : Nat} {args : Array Value} {S : Nat → Prop} {a' : Act} {X : World} {l : Nat} {o o' : Obj} (h1 : X.heap[l]? = some o) (h2 : o.isCells = false) (h : AtT n0 T ib V k args S a' X) : AtT n0 T ib V k args S a' (X.putObj l o') := by
  obtain ⟨v, base, e1, e0, hv, hn, e2⟩ := h
  exact ⟨v, base, e1, e0, hv.kp lims_int (kp_put h1 h2) trivial trivial, hn, e2⟩
end Go.Proofs.YtannhpadoooedaaGreatDoor

