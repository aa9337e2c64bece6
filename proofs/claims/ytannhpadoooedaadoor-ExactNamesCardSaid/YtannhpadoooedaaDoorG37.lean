/- Texts of this seat, laid together: VmG, VmH. Each opens with its own remark, which says what it proves, and under which conditions. -/
import Derived.Test.YtannhpadoooedaaDoorG35
import Derived.Test.YtannhpadoooedaaDoorG36
import Derived.Deep.DrawnRows
import Derived.Deep.RegionLaw
import Derived.Deep.LoopGhost
/- vm: Next, Done, Outs. -/
namespace Go.Proofs.YtannhpadoooedaaDoor
open Num
open Go.ChangeShapes Go.WideShapes Go.ChangeAt Go.RowKit
set_option linter.unusedVariables false
set_option linter.unusedSimpArgs false
attribute [local go_sem ↓] Go.wp_at_zero Go.wp_at_succ
section
variable {base b rb rc : Nat} {ins regs : Int} {code : List Ins} {outs : List Int} {g : Grid} {n : Nat}
set_option maxRecDepth 100000 in
theorem next_c (w : World) (h : Mach base w b rb rc ins regs code outs g n) : Calls Tryd.prog 18 #[.pointer (some ⟨b, 0, none⟩)] w fun e w' => e = .returned (.int .i64 n) ∧ Below w.heap.size w w' := by
  have h7 := h.c5
  have hB := Below.refl w.heap.size w
  clear h
  go_enter Tryd.func18, Tryd.ntmps18
  go_wp2
  go_ret
  exact ⟨rfl, by repeat (first | exact Below.refl _ _ | exact hB | refine Below.drew ?_ | refine below_drewN ?_ _ | refine bset ?_ (by simp <;> omega) _ | refine bal ?_ _)⟩
/-- has a machine come to its end? -/
def doneB (n l : Nat) : Bool := decide (n = l)
set_option maxRecDepth 100000 in
theorem done_c (w : World) (h : Mach base w b rb rc ins regs code outs g n) : Calls Tryd.prog 19 #[.pointer (some ⟨b, 0, none⟩)] w fun e w' => e = .returned (.bool (doneB n code.length)) ∧ Below w.heap.size w w' := by
  have h7 := h.c5
  obtain ⟨ca, cc, oa, oc, h1, -⟩ := h.ex
  have hB := Below.refl w.heap.size w
  clear h
  by_cases e : n = code.length
  · subst e
    have HD := Lib.hid (show doneB code.length code.length = true by simp [doneB])
    go_enter Tryd.func19, Tryd.ntmps19
    go_wp2
    go_quiet (fail)
    go_wp2
    go_ret
    exact ⟨by rw [HD.out]; rfl, by repeat (first | exact Below.refl _ _ | exact hB | refine Below.drew ?_ | refine below_drewN ?_ _ | refine bset ?_ (by simp <;> omega) _ | refine bal ?_ _)⟩
  · have HD := Lib.hid (show doneB n code.length = false by simp [doneB, e])
    have e1 : ((n : Int) == (code.length : Int)) = false := by simp; omega
    have e2 : decide (n = code.length) = false := by simp; omega
    go_enter Tryd.func19, Tryd.ntmps19
    go_wp2
    go_quiet (fail)
    go_wp2
    go_ret
    exact ⟨by rw [HD.out]; rfl, by repeat (first | exact Below.refl _ _ | exact hB | refine Below.drew ?_ | refine below_drewN ?_ _ | refine bset ?_ (by simp <;> omega) _ | refine bal ?_ _)⟩
/-- fresh rows -/
abbrev RowW (base : Nat) := RowO IsInt 34 base
set_option maxRecDepth 100000 in
set_option maxHeartbeats 8000000 in
theorem outs_no (w : World) (h : Mach base w b rb rc ins regs code outs g n) (hn : n < code.length) : Calls Tryd.prog 21 #[.pointer (some ⟨b, 0, none⟩)] w fun e w' => e = .returned (.tuple #[.slice none 0 0, .int .i64 4]) ∧ Below w.heap.size w w' := by
  have dc := fun W k => done_c W (h.keep (w' := W) k)
  rw [show doneB n code.length = false by simp [doneB]; omega] at dc
  have hB := Below.refl w.heap.size w
  clear h
  go_enter Tryd.func21, Tryd.ntmps21
  go_wp2_with fail
  refine (dc _ (by repeat (first | exact Below.refl _ _ | exact hB | refine Below.drew ?_ | refine below_drewN ?_ _ | refine bset ?_ (by simp <;> omega) _ | refine bal ?_ _))).mono ?_
  rintro e w1 ⟨rfl, hb1⟩
  clear dc
  go_wp2
  go_ret2
  exact ⟨rfl, hb1⟩
set_option maxRecDepth 100000 in
set_option maxHeartbeats 8000000 in
theorem outs_c (w : World) (m : Nat) (h : Mach base w b rb rc ins regs code outs g code.length) (hR : Rect m g) (hm : m ≤ 4096) (ho : ∀ k, k < outs.length → 0 ≤ outs.getD k 0 ∧ outs.getD k 0 < g.length) (hol : outs.length ≤ 128) :
    Calls Tryd.prog 21 #[.pointer (some ⟨b, 0, none⟩)] w fun e w' => ∃ v, e = .returned (.tuple #[v, .int .i64 0]) ∧ OwnL 31 (RowW w.heap.size) w w' v (outsG outs g) := by
  have dc := fun W k => done_c W (h.keep (w' := W) k)
  rw [show doneB code.length code.length = true by simp [doneB]] at dc
  have HM := Lib.hid h
  have HO := Lib.hid ho
  have HR := Lib.hid hR
  obtain ⟨ca, cc, oa, oc, h1, h2, h3, h4, h5, h6⟩ := h.ex
  have h9 := h.c4
  have HV := Lib.hid h4
  have hB := Below.refl w.heap.size w
  clear h ho hR h1 h3 h4 h5 h6
  go_enter Tryd.func21, Tryd.ntmps21
  go_wp2_with fail
  refine (dc _ (by repeat (first | exact Below.refl _ _ | exact hB | refine Below.drew ?_ | refine below_drewN ?_ _ | refine bset ?_ (by simp <;> omega) _ | refine bal ?_ _))).mono ?_
  rintro e w1 ⟨rfl, hb1⟩
  clear dc
  replace h2 := bkeep hb1 h2
  replace h9 := bkeep hb1 h9
  go_wp2
  go_loopw [4, 20] (fun v x wr => ∃ k : Nat, k ≤ outs.length ∧ x = .int .i64 k ∧ Hid (OwnL 31 (RowW w.heap.size) w wr v (outsG (outs.take k) g))) (fun _ x _ => outs.length - (intOf x).toNat)
  case atStart => exact ⟨0, Nat.zero_le _, rfl, Lib.hid (OwnL.nil _ _ hb1)⟩
  case round =>
    obtain ⟨k, hk, rfl, hO⟩ := hrel
    have hBr := hO.out.bel
    by_cases hlt : k < outs.length
    · have hltI : (k : Int) < (outs.length : Int) := by omega
      obtain ⟨q1, q2⟩ := HO.out k hlt
      rcases HV.out with h0 | ⟨ob, off, rfl, hcap, hcell⟩
      · rw [h0] at hlt; simp at hlt
      have hc := bkeep hBr (hcell k hlt)
      obtain ⟨r, hr⟩ : ∃ r : Nat, outs.getD k 0 = r := ⟨(outs.getD k 0).toNat, by omega⟩
      rw [hr] at hc q1 q2
      have hrl : r < g.length := by omega
      obtain ⟨u, hu, hrow⟩ := HM.out.regs.cell r hrl
      have hu2 := bkeep hBr hu
      have h92 := bkeep hBr HM.out.c4
      have HL := Lib.hid (HR.out r hrl)
      have kcl := fun W (h : Below wr.heap.size wr W) => cloneRow_c base u (g.getD r []) W ((hrow.keep lims_int hBr).keep lims_int h) (by rw [HL.out]; omega)
      have HN := Lib.hid (show outsG (outs.take (k + 1)) g = outsG (outs.take k) g ++ [g[r]] by
        rw [List.take_succ_eq_append_getElem hlt]
        have e : outs[k] = r := by rw [← hr]; simp [hlt]
        unfold outsG; rw [List.map_append, List.map_singleton, e, Int.toNat_natCast, show g.getD r [] = g[r] by simp [hrl]])
      have hlen : (outsG (outs.take k) g).length = k := by simp [outsG]; omega
      obtain ⟨va, vc, hv⟩ := hO.out.ex
      rw [hlen] at hv
      subst hv
      have HLEN := Lib.hid hlen
      clear hlen hr hcell hu hrow
      go_wp2_with fail
      refine (kcl _ (Below.refl _ _)).mono ?_
      rintro e w5 ⟨⟨v5, rfl, hr5⟩, hb5⟩
      have HO5 := Lib.hid (hO.out.below (prs_rowO lims_int _ _) hb5)
      obtain ⟨a5, c5, hv5⟩ := hr5.ex
      rw [HL.out] at hv5
      subst hv5
      have HR5 := Lib.hid (hr5.rebase hBr.size)
      clear hr5 kcl
      go_wp2_with (at_builtin; refine appL elRow (prs_rowO lims_int _ _) (by decide) (by rfl) (by rfl) (HO5.out.below (prs_rowO lims_int _ _) (bal (Below.refl _ _) _)) (HR5.out.keep lims_int (bal (Below.refl _ _) _)) (by rfl) (by rfl) (cell_new rfl rfl) (by rw [HLEN.out]; omega) (by rw [HLEN.out]; unfold maxLen; omega) ?_)
      intro v' w8 hO8 hk8
      have HO8 := Lib.hid hO8
      clear hO8 hk8
      go_wp2
      exact ⟨⟨k + 1, by omega, by go_num, by rw [HN.out]; exact HO8⟩, by simp [intOf]; omega⟩
    · obtain rfl : k = outs.length := by omega
      rw [List.take_length] at hO
      go_wp2
      go_ret2
      exact ⟨_, rfl, hO.out⟩
end
end Go.Proofs.YtannhpadoooedaaDoor
/- vm: Run. -/
namespace Go.Proofs.YtannhpadoooedaaDoor
open Num
open Go.ChangeShapes Go.WideShapes Go.ChangeAt Go.RowKit
set_option linter.unusedVariables false
set_option linter.unusedSimpArgs false
/-- what Run answers -/
def RunPost (ins regs : Int) (code : List Ins) (outs : List Int) (g : Grid) (w : World) (e : Ending) (w' : World) : Prop :=
  ((¬ ProgOk ins regs code outs ∧ e = .returned (.tuple #[.slice none 0 0, .int .i64 0, .int .i64 80])) ∨
   (ProgOk ins regs code outs ∧ ¬ FitsG ins g ∧ e = .returned (.tuple #[.slice none 0 0, .int .i64 0, .int .i64 5])) ∨
   (ProgOk ins regs code outs ∧ FitsG ins g ∧ ∃ (k : Nat) (h : Grid), k < code.length ∧ after code (startG g regs.toNat (g.getD 0 []).length) k = some h ∧ after code (startG g regs.toNat (g.getD 0 []).length) (k + 1) = none ∧ e = .returned (.tuple #[.slice none 0 0, .int .i64 k, .int .i64 20])) ∨
   (ProgOk ins regs code outs ∧ FitsG ins g ∧ ∃ (h : Grid) (v : Value), after code (startG g regs.toNat (g.getD 0 []).length) code.length = some h ∧ e = .returned (.tuple #[v, .int .i64 code.length, .int .i64 0]) ∧ OwnL 31 (RowW w.heap.size) w w' v (outsG outs h))) ∧ Below w.heap.size w w'
theorem cs_of {ins regs : Int} {code : List Ins} {outs : List Int} (h : ProgOk ins regs code outs) : Cs code := fun n hn => by
  obtain ⟨h1, h2, h3, h4, h5, h6, _⟩ := (mayB_iff ..).1 (h.cs n hn)
  constructor
  · intro e; rw [constB_mul (.inl e)] at h6; have := of_decide_eq_true h6; omega
  · intro e; rw [constB_shift (.inl e)] at h6; have := of_decide_eq_true h6; omega
theorem ins_of {ins regs : Int} {code : List Ins} {outs : List Int} (h : ProgOk ins regs code outs) {n : Nat} (hn : n < code.length) : InsOk (code.getD n default) regs.toNat := by
  have h1 := h.i1; have h2 := h.i2
  refine insOk_of ?_ (by omega)
  rw [show ((regs.toNat : Nat) : Int) = regs by omega]; exact h.cs n hn
theorem after_succ {code : List Ins} {g h : Grid} {n : Nat} (e : after code g n = some h) : after code g (n + 1) = (stepR (code.getD n default) (h.getD (code.getD n default).a.toNat []) (h.getD (code.getD n default).b.toNat [])).map fun r => h.set (code.getD n default).to.toNat r := by
  rw [after, e]; rfl
set_option maxRecDepth 100000 in
set_option maxHeartbeats 16000000 in
theorem run_c (ins regs : Int) (ca oa : Option Addr) (cc oc : Nat) (code : List Ins) (outs : List Int) (vg : Value) (g : Grid) (K : Nat) (w : World) (hc : InsV w ca cc code) (ho : IntsV w oa oc outs) (hcn : ca = none → code = []) (hon : oa = none → outs = []) (hg : GridV w vg g)
    (h1 : code.length ≤ 1099511627776) (h2 : outs.length ≤ 1099511627776) (h3 : g.length ≤ 4398046511104) (hK : BdG K g) (hK2 : K ≤ 2147483648) (hT : Tz32 w) :
    Calls Tryd.prog 11 #[.agg #[.int .i64 ins, .int .i64 regs, .slice ca code.length cc, .slice oa outs.length oc], vg] w (RunPost ins regs code outs g w) := by
  have kn := fun W (h : Below w.heap.size w W) => new_c ins regs ca oa cc oc code outs vg g W (hc.keep h) (ho.keep h) hcn hon (hg.keep (prs_row lims_int _ _) h) h1 h2 h3
  have HT := Lib.hid hT
  have HK := Lib.hid hK
  have hvg : ∃ a c, vg = .slice a g.length c := by obtain ⟨a, c, h, _⟩ := hg; exact ⟨a, c, h⟩
  obtain ⟨ga, gc, rfl⟩ := hvg
  clear hc ho hcn hon hg h1 h2 h3 hT hK
  have hB := Below.refl w.heap.size w
  go_enter Tryd.func11, Tryd.ntmps11
  go_wp2
  go_step3
  go_wp2_with fail
  refine (kn _ (by repeat (first | exact Below.refl _ _ | exact hB | refine Below.drew ?_ | refine below_drewN ?_ _ | refine bset ?_ (by simp <;> omega) _ | refine bal ?_ _))).mono ?_
  rintro e w1 ⟨hp, hb1⟩
  have hB1 : Below w.heap.size w w1 := bthen (by repeat (first | exact Below.refl _ _ | exact hB | refine Below.drew ?_ | refine below_drewN ?_ _ | refine bset ?_ (by simp <;> omega) _ | refine bal ?_ _)) hb1
  clear kn
  rcases hp with ⟨hno, rfl⟩ | ⟨hok, hnf, rfl⟩ | ⟨hok, hfit, b, rb, rc, rfl, hmach⟩
  · have HNO := Lib.hid hno
    clear hno
    go_wp2
    go_ret3
    exact ⟨.inl ⟨HNO.out, rfl⟩, hB1⟩
  · have HNO := Lib.hid (And.intro hok hnf)
    clear hok hnf
    go_wp2
    go_ret3
    exact ⟨.inr (.inl ⟨HNO.out.1, HNO.out.2, rfl⟩), hB1⟩
  · have HOK := Lib.hid hok
    have HFIT := Lib.hid hfit
    have hg0 : g.length ≤ regs.toNat := by have := hfit.len; have := hok.i2; omega
    have HR := Lib.hid (startG_rect (regs := regs.toNat) hfit.rect)
    have HL := Lib.hid (startG_len (n := (g.getD 0 []).length) hg0)
    have HBD := Lib.hid (startG_bd (regs := regs.toNat) (n := (g.getD 0 []).length) HK.out)
    have hm := hfit.m
    have hmach' : Mach w.heap.size w1 b rb rc ins regs code outs (startG g regs.toNat (g.getD 0 []).length) 0 := hmach.rebase (by simp)
    have HM := Lib.hid hmach'
    obtain ⟨m, hmE⟩ : ∃ m, (g.getD 0 []).length = m := ⟨_, rfl⟩
    have HME := Lib.hid hmE
    rw [hmE] at hm HM HR HL HBD
    obtain ⟨G, hG⟩ : ∃ G, startG g regs.toNat m = G := ⟨_, rfl⟩
    rw [hG] at HM HR HL HBD
    have HG := Lib.hid hG
    clear hok hfit hmach hmach' hG hg0 hmE
    have hcl := HOK.out.c1
    go_wp2
    go_step3
    go_wp2
    go_loopg [] code.length (fun gk wr => ∃ n : Nat, n ≤ code.length ∧ gk = code.length - n ∧ Hid (∃ h, after code G n = some h ∧ Mach w.heap.size wr b rb rc ins regs code outs h n) ∧ Below w.heap.size w wr)
    case atStart => exact ⟨0, Nat.zero_le _, by omega, Lib.hid ⟨G, rfl, HM.out⟩, hB1⟩
    case round =>
      obtain ⟨n, hn, hgk, hrel, hBr⟩ := hrel
      obtain ⟨h, hh, hM⟩ := hrel.out
      have HH := Lib.hid (And.intro hh hM)
      have hBw := Below.refl wr.heap.size wr
      by_cases hlt : n < code.length
      · have hrect := after_rect HR.out HL.out (fun q hq => by have := (ins_of HOK.out hq).a1; have := (ins_of HOK.out hq).a0; omega) hn hh
        have hlen := (after_len hh).trans HL.out
        have hbd := after_bd HBD.out (cs_of HOK.out) hn hh
        have sc := fun W (k : Below wr.heap.size wr W) => step_c W (hM.keep k) hlt hcl (by rw [hlen]; exact ins_of HOK.out hlt) hrect hm (hbd.mono (show K + 65 * n ≤ 4294967296 by omega)) (Nat.le_refl _) (HT.out.keep (bthen hBr k))
        clear hrel hh hM hrect hlen hbd
        go_wp2_with fail
        refine (sc _ (by repeat (first | exact Below.refl _ _ | exact hBw | refine Below.drew ?_ | refine below_drewN ?_ _ | refine bset ?_ (by simp <;> omega) _ | refine bal ?_ _))).mono ?_
        rintro e w5 hp
        unfold StepPost at hp
        cases hs : stepR (code.getD n default) (h.getD (code.getD n default).a.toNat []) (h.getD (code.getD n default).b.toNat []) with
        | none =>
          rw [hs] at hp
          obtain ⟨rfl, hb5⟩ := hp
          have HNX := Lib.hid (show after code G (n + 1) = none by rw [after_succ HH.out.1, hs]; rfl)
          have c5 := (HH.out.2.keep hb5).c5
          have hB5 := bthen hBr hb5
          clear hs sc
          go_wp2
          go_quiet (fail)
          go_wp2
          go_ret3
          refine ⟨.inr (.inr (.inl ⟨HOK.out, HFIT.out, n, h, hlt, ?_, ?_, rfl⟩)), by repeat (first | exact Below.refl _ _ | exact hB5 | refine Below.drew ?_ | refine below_drewN ?_ _ | refine bset ?_ (by simp <;> omega) _ | refine bal ?_ _)⟩
          · rw [HME.out, HG.out]; exact HH.out.1
          · rw [HME.out, HG.out]; exact HNX.out
        | some r =>
          rw [hs] at hp
          obtain ⟨rfl, hM5, hO5⟩ := hp
          have HNX := Lib.hid (show ∃ h, after code G (n + 1) = some h ∧ Mach w.heap.size w5 b rb rc ins regs code outs h (n + 1) from ⟨_, by rw [after_succ HH.out.1, hs]; rfl, hM5⟩)
          have hB5 := out_below hBr hO5 (fun q hq => by rcases hq with rfl | rfl; exact hM5.lo; exact hM5.rlo)
          clear hs sc hM5 hO5
          go_wp2
          go_roundg (code.length - (n + 1))
          case measure => omega
          case rel => exact ⟨n + 1, by omega, rfl, HNX, hB5⟩
      · obtain rfl : n = code.length := by omega
        have hrect := after_rect HR.out HL.out (fun q hq => by have := (ins_of HOK.out hq).a1; have := (ins_of HOK.out hq).a0; omega) hn hh
        have hlen := (after_len hh).trans HL.out
        have sc := fun W (k : Below wr.heap.size wr W) => step_end W (hM.keep k)
        have oc' := fun W (k : Below wr.heap.size wr W) => outs_c W m (hM.keep k) hrect hm (fun q hq => by
          obtain ⟨h5, h6⟩ := HOK.out.os q hq
          rw [hlen]; have := HOK.out.i1; have := HOK.out.i2; omega) HOK.out.o2
        clear hrel hh hM hrect hlen
        go_wp2_with fail
        refine (sc _ (by repeat (first | exact Below.refl _ _ | exact hBw | refine Below.drew ?_ | refine below_drewN ?_ _ | refine bset ?_ (by simp <;> omega) _ | refine bal ?_ _))).mono ?_
        rintro e w5 ⟨rfl, hb5⟩
        have hBw5 : Below wr.heap.size wr w5 := bthen (by repeat (first | exact Below.refl _ _ | exact hBw | refine Below.drew ?_ | refine below_drewN ?_ _ | refine bset ?_ (by simp <;> omega) _ | refine bal ?_ _)) hb5
        clear sc
        go_wp2_with fail
        refine (oc' _ (by repeat (first | exact Below.refl _ _ | exact hBw5 | refine Below.drew ?_ | refine below_drewN ?_ _ | refine bset ?_ (by simp <;> omega) _ | refine bal ?_ _))).mono ?_
        rintro e w6 ⟨v, rfl, hO6⟩
        have hB6 := bthen hBr (bthen hBw5 hO6.bel)
        have c5 := (HH.out.2.keep (bthen hBw5 hO6.bel)).c5
        have HO6 := Lib.hid (show OwnL 31 (RowW w.heap.size) w w6 v (outsG outs h) from (hO6.rebase (bthen hBr hBw5)).mono fun u x hr => hr.rebase (bthen hBr hBw5).size)
        obtain ⟨av, cv, rfl⟩ := hO6.ex
        clear hO6 oc'
        go_wp2
        go_quiet (fail)
        go_wp2
        go_ret3
        refine ⟨.inr (.inr (.inr ⟨HOK.out, HFIT.out, h, _, ?_, rfl, ?_⟩)), by repeat (first | exact Below.refl _ _ | exact hB6 | refine Below.drew ?_ | refine below_drewN ?_ _ | refine bset ?_ (by simp <;> omega) _ | refine bal ?_ _)⟩
        · rw [HME.out, HG.out]; exact HH.out.1
        · exact HO6.out.below (prs_rowO lims_int _ _) (by have hB9 := Below.refl w6.heap.size w6; repeat (first | exact Below.refl _ _ | exact hB9 | refine Below.drew ?_ | refine below_drewN ?_ _ | refine bset ?_ (by simp <;> omega) _ | refine bal ?_ _))
end Go.Proofs.YtannhpadoooedaaDoor
