/- Texts of this seat, laid together (what the earlier ones leave out): DnV, DwN, DwG, DwH. Each opens with its own remark, which says what it proves, and under which conditions. -/
import Derived.Test.YtbmaffijncapiaaGreatDoorL01
import Derived.Test.YtbmaffijncapiaaGreatDoorL02
import Derived.Test.YtbmaffijncapiaaGreatDoorL03
import Derived.Test.YtbmaffijncapiaaGreatDoorL04
import Derived.Test.YtbmaffijncapiaaGreatDoorL05
import Derived.Test.YtbmaffijncapiaaGreatDoorL06
import Derived.Test.YtbmaffijncapiaaGreatDoorL07
import Derived.Test.YtbmaffijncapiaaGreatDoorL08
import Derived.Test.YtbmaffijncapiaaGreatDoorL09
import Derived.Test.YtbmaffijncapiaaGreatDoorL10
import Derived.Test.YtbmaffijncapiaaGreatDoorL11
import Derived.Test.YtbmaffijncapiaaGreatDoorL12
import Derived.Test.YtbmaffijncapiaaGreatDoorL13
import Derived.Test.YtbmaffijncapiaaGreatDoorL14
import Derived.Test.YtbmaffijncapiaaGreatDoorL15
import Derived.Test.YtbmaffijncapiaaGreatDoorL16
import Derived.Test.YtbmaffijncapiaaGreatDoorL17
import Derived.Test.YtbmaffijncapiaaGreatDoorL18
import Derived.Test.YtbmaffijncapiaaGreatDoorL19
import Derived.Test.YtbmaffijncapiaaGreatDoorL20
import Derived.Test.YtbmaffijncapiaaGreatDoorL21
import Derived.Test.YtbmaffijncapiaaGreatDoorL22
import Derived.Test.YtbmaffijncapiaaGreatDoorL23
import Derived.Test.YtbmaffijncapiaaGreatDoorL24
import Derived.Test.YtbmaffijncapiaaGreatDoorL25
import Derived.Test.YtbmaffijncapiaaGreatDoorL26
import Derived.Test.YtbmaffijncapiaaGreatDoorL27
import Derived.Test.YtbmaffijncapiaaGreatDoorL28
import Derived.Test.YtbmaffijncapiaaGreatDoorL29
import Derived.Test.YtbmaffijncapiaaGreatDoorL30
import Derived.Test.YtbmaffijncapiaaGreatDoorL31
import Derived.Test.YtbmaffijncapiaaGreatDoorL32
import Derived.Test.YtbmaffijncapiaaGreatDoorL33
import Derived.Test.YtbmaffijncapiaaGreatDoorU01
import Derived.WalkKit
import Derived.ProofKit
import Derived.OpenShut
import Derived.Deep.QuietTactic
import Derived.BigQuiet
import Derived.Outline
import Derived.Lib.Hide
import Derived.WalkSmall
import Derived.WalkSpells
import Derived.WalkLawsBesides
import Derived.Deep.RegionWith
import Derived.Deep.RegionHeld3
import Derived.Laws.CopyOwn
import Derived.Shelf.Small.Bits
import Derived.Laws.AppendOwn
import Derived.Deep.AppendLies
import Derived.OneCell
import Derived.Laws.BitsAllLaws
import Derived.Shelf.Spec.TrailingZeros
import Derived.Shelf.Strings.Builder1
import Derived.Shelf.Strings.Trim
import Derived.Deep.Cut
import Derived.Deep.DeepCutAuto
import Derived.ArgAppend
import Derived.Deep.DeepFit
import Derived.RegionTactic
import Derived.ChangeAlike
import Derived.Laws.OwnMore
import Derived.Deep.Onto
import Derived.Shelf.Abstract
import Derived.Laws.EntriesVeiled
import Derived.Deep.DrawnRows
import Derived.Deep.RegionLaw
import Derived.Deep.LoopGhost
import Derived.RangeFuncNested
import Derived.RangeFuncBound
import Derived.RangeFuncCalls
import Derived.RangeFuncLeaves
import Derived.Shelf.RegionOpen
import Derived.OwnWalkIn
import Derived.TacticsInMore
import Derived.LoopNIn
import Derived.LoopIn
import Derived.Laws.CopyRow
import Derived.Laws.Rows
import Derived.Laws.Tables
import Derived.StillTail
import Derived.Deep.Quiet
import Derived.StillTailTactics
import Derived.Lib.AppendZeros
import Derived.Laws.IdiomStrings
import Derived.Laws.BytesArg
import Derived.Laws.RangeString
import Derived.Lib.OthersKept
import Derived.Maps.AppendAt
import Derived.Shelf.Strings.OnBuilder
import Derived.Lib.SmallJoins
import Derived.Deep.Slices
import Derived.Deep.Matrix
import Derived.Deep.Fields
import Derived.ChangeSame
import Derived.DataShut
import Derived.SizedLaws
set_option linter.unusedVariables false
set_option linter.unusedSimpArgs false
/- denote: Apply: what a program makes of numbers. -/
namespace Go.Proofs.YtbmaffijncapiaaGreatDoor
open Num
open Go.ChangeShapes Go.WideShapes Go.ChangeAt Go.RowKit
attribute [local go_sem ↓] Go.wp_at_zero Go.wp_at_succ
theorem one_row {w : World} {b : Nat} {q : Rat} (h : VarF b q w) : FRow 0 w (.slice (some ⟨b, 0, none⟩) 1 1) [q] := FrBlk.row (n := 1) (m := 0) h rfl (Nat.le_refl _) (fun j hj => by
  have : j = 0 := by omega
  subst this; rfl)
set_option maxRecDepth 100000 in
set_option maxHeartbeats 16000000 in
theorem apply_cQ (ins regs : Int) (ca oa : Option Addr) (cc oc : Nat) (code : List Ins) (outs : List Int) (vl : Value) (l : List Int) (w : World) (hc : InsV w ca cc code) (ho : IntsV w oa oc outs) (hl : PRow 0 w vl l) (hb : ∀ j, Bd 65000 (l.getD j 0)) (hll : l.length ≤ 1099511627775) :
    Calls Tryz.prog 32 #[.agg #[.int .i64 ins, .int .i64 regs, .slice ca code.length cc, .slice oa outs.length oc], vl] w (AppQPost ins regs code outs l w) := by
  have HC := Lib.hid (And.intro hc ho)
  have HL := Lib.hid hl
  have HBD := Lib.hid hb
  have HCB := Lib.hid (show ∀ b off, ca = some ⟨b, off, none⟩ → 0 < code.length → b < w.heap.size from fun b off e hl => by
    rcases hc with h0 | ⟨b', off', h1, _, h3⟩
    · rw [h0] at hl; simp at hl
    · rw [e] at h1; cases h1
      exact cell_lt (h3 0 hl).c0)
  obtain ⟨la, lc, rfl, -⟩ := hl
  clear hc ho hb
  have hB := Below.refl w.heap.size w
  by_cases hp : ProgOk ins regs code outs
  · have CP := Lib.hid (fun V (h : Below w.heap.size w V) => check_yes (HC.out.1.keep h) (HC.out.2.keep h) hp)
    by_cases hn : (l.length : Int) = ins
    · obtain ⟨R, rfl⟩ : ∃ R : Nat, regs = R := ⟨regs.toNat, by have := hp.i1; have := hp.i2; omega⟩
      have HP := Lib.hid hp
      have HNI := Lib.hid hn
      have hR128 : R ≤ 128 := by have := hp.r1; omega
      have hlR : l.length ≤ R := by have := hp.i2; omega
      have hR1 : 0 < R := by have := hp.i1; have := hp.i2; omega
      have hdn : ((l.length : Int) != ins) = false := by simpa using hn
      have hcl := hp.c1
      have hol := hp.o2
      have HEQ := Lib.hid (show endA l (R : Int) code = afterF code (inF l R) code.length from by unfold endA; rw [Int.toNat_natCast])
      have HIN := Lib.hid (fun k (hk : k < code.length) => (show InsOk (code.getD k default) (inF l R).length from by rw [inF_len]; have := ins_ofF hp hk; rwa [Int.toNat_natCast] at this))
      have HOS := Lib.hid (show ∀ k, k < outs.length → 0 ≤ outs.getD k 0 ∧ outs.getD k 0 < (R : Int) from fun k hk => hp.os k hk)
      have HUL := Lib.hid (inF_len l R)
      have HUR := Lib.hid (And.intro (inF_rect l R) (inF_slim R HBD.out))
      have HGK := Lib.hid (fun k (h : k < R) => inF_get (l := l) h)
      have hmk := mkRegsF R (by omega)
      have HNEW := Lib.hid (fun W => regsF_new W (inF l R) (inF_len l R).symm)
      obtain ⟨G, hG⟩ : ∃ G, inF l R = G := ⟨_, rfl⟩
      rw [hG] at HEQ HIN HUL HUR HGK HNEW
      clear hp hn hG
      go_enter Tryz.func32, Tryz.ntmps32
      go_wp2_with fail
      (with_reducible refine (CP.out _ ?_).mono ?_); (repeat (first|exact bzR _ _|exact hB|refine bzD ?_|refine bzN ?_|refine bzS ?_|refine bzA ?_))
      rintro e w1 ⟨⟨r1, rfl⟩, hb1⟩
      have p0 : w1.cell? ⟨w.heap.size, 0, none⟩ = some (.int .i64 ins) := bkc hb1
      have zp0 := cell_lt p0
      have p1 : w1.cell? ⟨w.heap.size, 1, none⟩ = some (.int .i64 (R : Int)) := bkc hb1
      have p2 : w1.cell? ⟨w.heap.size, 2, none⟩ = some (.slice ca code.length cc) := bkc hb1
      have p3 : w1.cell? ⟨w.heap.size, 3, none⟩ = some (.slice oa outs.length oc) := bkc hb1
      have hB : Below w.heap.size w w1 := bthen (by repeat (first|exact bzR _ _|exact hB|refine bzD ?_|refine bzN ?_|refine bzS ?_|refine bzA ?_)) hb1
      have hz : w.heap.size ≤ w1.heap.size := hB.size
      have HS := Lib.hid (show ∀ V, Below w1.heap.size w1 V → V.cell? ⟨w.heap.size, 0, none⟩ = some (.int .i64 ins) ∧ V.cell? ⟨w.heap.size, 1, none⟩ = some (.int .i64 (R : Int)) ∧ V.cell? ⟨w.heap.size, 2, none⟩ = some (.slice ca code.length cc) ∧ V.cell? ⟨w.heap.size, 3, none⟩ = some (.slice oa outs.length oc) from fun V q => ⟨bkeep q p0, bkeep q p1, bkeep q p2, bkeep q p3⟩)
      have HB1 := Lib.hid hB
      have hBw := Below.refl w1.heap.size w1
      clear CP hb1
      go_upto_region 7 with (fail)
      refine wp_name fun w2 hW2 => ?_
      have h12 : Below w1.heap.size w1 w2 := by rw [hW2]; repeat (first|exact bzR _ _|exact hBw|refine bzD ?_|refine bzN ?_|refine bzS ?_|refine bzA ?_)
      have HR2 := Lib.hid (show RegsF (fun _ => False) w2 w1.heap.size (upF G 0) from by rw [hW2]; exact HNEW.out w1)
      obtain ⟨rb, hrb⟩ : ∃ rb, w1.heap.size = rb := ⟨_, rfl⟩
      have hrw : w.heap.size < rb := by rw [← hrb]; exact cell_lt p0
      have HRB := Lib.hid hrb
      rw [hrb] at HR2 ⊢
      clear hW2 hmk hrb p0 p1 p2 p3 HNEW hBw
      go_wp2
      go_loopw [32] (fun x wr => ∃ k : Nat, k ≤ R ∧ x = .int .i64 k ∧ Below w1.heap.size w1 wr ∧ Hid (RegsF (fun _ => False) wr rb (upF G k))) (fun x _ => R - (intOf x).toNat)
      case atStart => exact ⟨0, Nat.zero_le _, rfl, h12, HR2⟩
      case round =>
        obtain ⟨k, hk, rfl, hBr, hRQ⟩ := hrel
        by_cases hlt : k < R
        · have hltI : (k : Int) < (R : Int) := by omega
          have hkl : k < (upF G k).length := by rw [upF_len (by rw [HUL.out]; omega), HUL.out]; exact hlt
          obtain ⟨uo, o0, -⟩ := hRQ.out.cell k hkl
          have of0 := hRQ.out.free.2 k
          have zo := cell_lt o0
          have hmk1 : ∀ w, (Instr.makeSlice 38 (.int .i64 1) (.int .i64 1)).run Tryz.prog w = .ok (.slice (some ⟨w.heap.size, 0, none⟩) 1 1) (w.alloc (.cells (zcelQ 1) 79)) := mkRats 1 (by omega)
          have hrr := Below.refl wr.heap.size wr
          go_upto_region 11 with (fail)
          refine wp_name fun w5 hW5 => ?_
          obtain ⟨xb, hxb⟩ : ∃ xb, wr.heap.size = xb := ⟨_, rfl⟩
          have hrx : rb < xb := by rw [← hxb]; exact hRQ.out.free.1
          rw [hxb] at hW5 ⊢
          have hkp5 : Kp (· ≠ 38) wr (wr.setCell ⟨rb, k, none⟩ (.slice (some ⟨xb, 0, none⟩) 1 1)) := (Kp.refl _ _).set (fun t ht => by rw [hRQ.out.ty] at ht; cases ht; exact fun k => k rfl) _
          have hO5 : Out (fun q => q = rb) wr w5 := by rw [hW5]; exact (Out.set (Out.refl (fun q => q = rb) wr) (p := ⟨rb, k, none⟩) (fun _ => rfl) _).alloc _
          have c0 : w5.cell? ⟨rb, k, none⟩ = some (.slice (some ⟨xb, 0, none⟩) 1 1) := by rw [hW5]; exact cell_alloc (cell_here o0 _) _
          have HX5 := Lib.hid (show VarF xb 0 w5 from by rw [hW5]; exact zcelQ_blk (wr.setCell ⟨rb, k, none⟩ (.slice (some ⟨xb, 0, none⟩) 1 1)) 1 (by simp [hxb]))
          have hcj : ∀ j, j ≠ k → w5.cell? ⟨rb, j, none⟩ = wr.cell? ⟨rb, j, none⟩ := fun j hj => by
            rw [hW5, World.cell?_of_block (w := wr.setCell ⟨rb, k, none⟩ (.slice (some ⟨xb, 0, none⟩) 1 1)) (Below.heap_alloc _ _ _ (by simpa using hRQ.out.free.1))]
            exact World.cell?_setCell_other _ _ _ _ (show (⟨rb, k, none⟩ : Addr) ≠ ⟨rb, j, none⟩ from fun e => hj (congrArg Addr.off e).symm)
          have hf5 : Free w5 rb := by rw [hW5]; exact (hRQ.out.free.set _ _).keep (bal (Below.refl _ _) _)
          have ht5 : typOf w5 rb = some 38 := by rw [hW5]; exact typ_keep (by rw [typ_set]; exact hRQ.out.ty) (bal (Below.refl _ _) _)
          have hl5 : Lim wr w5 := by rw [hW5]; exact (Kp.lim hkp5 (by decide)).trans (Lim.of_below (bal (Below.refl _ _) _))
          have zc := cell_lt c0
          have hB5 : Below w1.heap.size w1 w5 := hBr.trans (hO5.to_below (fun q hq _ e => by have := HRB.out; omega) hBr.size)
          have HG := Lib.hid (HGK.out k hlt)
          by_cases hkg : k < l.length
          · have hkgI : (k : Int) < (l.length : Int) := by omega
            rw [if_pos hkg] at HG
            obtain ⟨la2, lc2, e2, -, -, h4⟩ := HL.out
            obtain ⟨rfl, -, rfl⟩ := Value.slice.inj e2
            rcases h4 with h4 | ⟨ib, io, rfl, -, -, hI⟩
            · rw [h4] at hkg; simp at hkg
            obtain ⟨nb, ad, ln, cp, i0, i1, iI⟩ := hI k hkg
            have zib := cell_lt i0
            have hBw5 : Below w.heap.size w w5 := bthen HB1.out hB5
            have i0 := bkeep hBw5 i0
            have i1 := bkeep hBw5 i1
            have zi := cell_lt i0
            have HII := Lib.hid (iI.keep hBw5)
            have HZ := Lib.hid (show ∀ z, l.getD k 0 = z → G.getD k [] = [((z : Int) : Rat)] from fun z e => by rw [HG.out, e])
            obtain ⟨z, hz⟩ : ∃ z, l.getD k 0 = z := ⟨_, rfl⟩
            have HZ1 := Lib.hid (HZ.out z hz)
            have HI5 := Lib.hid (show IsInt w5 (.agg #[.bool nb, .slice ad ln cp]) z from by rw [← hz]; exact HII.out)
            have WC := Lib.hid (fun V (q : Below w5.heap.size w5 V) => pqWhole_c (.agg #[.bool nb, .slice ad ln cp]) z V (HI5.out.keep q))
            have h55 := Below.refl w5.heap.size w5
            have HH5 := Lib.hid (And.intro hO5 (And.intro hl5 (And.intro hf5 (And.intro ht5 hcj))))
            have zx5 := HX5.out.fr.1
            clear hW5 iI hI e2 hz HII HZ HG hO5 hl5 hf5 ht5 hcj hkp5 hmk1 o0 of0 zo
            go_wp2
            go_region_law (go_simp; go_wp2_with (first | (go_at_call 39; (with_reducible refine (WC.out _ ?_).mono ?_); (repeat (first|exact bzR _ _|exact h55|refine bzD ?_|refine bzN ?_|refine bzS ?_|refine bzA ?_)); rintro e w6 ⟨⟨u6, rfl, hu6⟩, hb6⟩; have h56 : Below w5.heap.size w5 w6 := bthen (by repeat (first|exact bzR _ _|exact h55|refine bzD ?_|refine bzN ?_|refine bzS ?_|refine bzA ?_)) hb6; have HX6 := Lib.hid (HX5.out.keep h56); have HU6 := Lib.hid hu6; obtain ⟨m1, b1, k1, d1, m2, b2, k2, d2, rfl, -, -⟩ := hu6; obtain ⟨_, _, _, _, _, _, _, _, x0, x1, x2, x3, -, f0, f1, f2, f3⟩ := HX6.out.view; have c06 := bkeep h56 c0; have i06 := bkeep h56 i0; have i16 := bkeep h56 i1; have zc6 := cell_lt c06; have zi6 := cell_lt i06; have zx6 := cell_lt x0)))
            all_goals
              have hxx : ∀ {P : Prop}, xb < wr.heap.size → P := fun h => absurd h (by omega)
              have hxr : xb ≠ rb := by omega
              have HYP := Lib.hid (HX6.out.put HU6.out)
              have hlS := (HX6.out.at_ 0 (by omega)).limS (.bool m1) (.slice b1 k1 d1) (.bool m2) (.slice b2 k2 d2)
              simp only [Nat.zero_mul, Nat.zero_add] at hlS
              have hO6 := HH5.out.1.below h56
              have HRN := Lib.hid (hRQ.out.made HUL.out hlt ((((hO6.set (p := ⟨xb, 0, none⟩) hxx (.bool m1)).set (p := ⟨xb, 1, none⟩) hxx (.slice b1 k1 d1)).set (p := ⟨xb, 2, none⟩) hxx (.bool m2)).set (p := ⟨xb, 3, none⟩) hxx (.slice b2 k2 d2))
                ((HH5.out.2.1.trans (Lim.of_below h56)).trans hlS) (((((HH5.out.2.2.1.keep h56).set _ _).set _ _).set _ _).set _ _) (by rw [typ_set, typ_set, typ_set, typ_set]; exact typ_keep HH5.out.2.2.2.1 h56)
                (fun j hj => by
                  rw [World.cell?_setCell_other (h := addr_ne hxr), World.cell?_setCell_other (h := addr_ne hxr), World.cell?_setCell_other (h := addr_ne hxr), World.cell?_setCell_other (h := addr_ne hxr), World.cell?_of_block (w := w5) (h56.block rb HH5.out.2.2.1.1)]
                  exact HH5.out.2.2.2.2 j hj)
                (cell_far (cell_far (cell_far (cell_far c06 (addr_ne hxr) _) (addr_ne hxr) _) (addr_ne hxr) _) (addr_ne hxr) _) (by rw [HZ1.out]; exact one_row HYP.out))
              have hB7 := bset (bset (bset (bset ((hB5.mono (Nat.le_refl _)).trans (h56.mono hB5.size)) (p := ⟨xb, 0, none⟩) (by have := hBr.size; show w1.heap.size ≤ xb; omega) (.bool m1)) (p := ⟨xb, 1, none⟩) (by have := hBr.size; show w1.heap.size ≤ xb; omega) (.slice b1 k1 d1)) (p := ⟨xb, 2, none⟩) (by have := hBr.size; show w1.heap.size ≤ xb; omega) (.bool m2)) (p := ⟨xb, 3, none⟩) (by have := hBr.size; show w1.heap.size ≤ xb; omega) (.slice b2 k2 d2)
              clear hlS hO6 WC HX6 HU6 HYP HH5
              go_wp2
              exact ⟨⟨k + 1, hlt, by go_num, hB7, HRN⟩, meas hlt (by go_num) rfl⟩
          · have hkgI : ¬ (k : Int) < (l.length : Int) := by omega
            have HRN := Lib.hid (hRQ.out.made HUL.out hlt hO5 hl5 hf5 ht5 hcj c0 (by
              rw [HG.out, if_neg hkg]
              exact one_row HX5.out))
            clear hW5
            go_wp2
            exact ⟨⟨k + 1, hlt, by go_num, hB5, HRN⟩, meas hlt (by go_num) rfl⟩
        · obtain rfl : R = k := by omega
          have hltI : ¬ (R : Int) < (R : Int) := by omega
          have HRA := Lib.hid (show RegsF (fun _ => False) wr rb G from by
            have := hRQ.out
            rw [← HUL.out, upF_all] at this
            exact this)
          have hBwr := bthen HB1.out hBr
          obtain ⟨p0, p1, p2, p3⟩ := HS.out wr hBr
          have zp := cell_lt p0
          have hzr : rb < wr.heap.size := HRA.out.free.1
          have RC := Lib.hid (fun V (q : Below wr.heap.size wr V) => (runA_c rb ins (R : Int) ca oa cc outs.length oc code G 1 rb R V (HC.out.1.keep (bthen hBwr q)) HIN.out (by omega) (by rw [HUL.out]; exact hR128) (HRA.out.keep q) HUR.out.1 (by omega) HUR.out.2 (fun b off e hl => by have := HCB.out b off e hl; omega) (Nat.le_refl _)).mono
            (R' := fun e w' => ((∃ h, afterF code G code.length = some h ∧ e = .returned (.tuple #[.slice (some ⟨rb, 0, none⟩) G.length R, .bool true]) ∧ RegsF (fun _ => False) w' rb h) ∨ (afterF code G code.length = none ∧ e = .returned (.tuple #[.slice none 0 0, .bool false]))) ∧ Below rb wr w') fun e w' ⟨h1, h2⟩ => ⟨h1, (q.mono (by omega)).trans h2⟩)
          rw [HUL.out] at RC
          have hBw := Below.refl wr.heap.size wr
          clear hRQ
          cases hend : afterF code G code.length with
          | none =>
            have HEN := Lib.hid hend
            have HR := Lib.hid (show AppNo ins R code outs l 3 from .inr (.inr ⟨HP.out, HNI.out, by rw [HEQ.out]; exact hend, rfl⟩))
            clear hend
            go_wp2_with fail
            (with_reducible refine (RC.out _ ?_).mono ?_); (repeat (first|exact bzR _ _|exact hBw|refine bzD ?_|refine bzN ?_|refine bzS ?_|refine bzA ?_))
            rintro e w7 ⟨(⟨h, h1, -⟩ | ⟨-, rfl⟩), hb7⟩
            · rw [HEN.out] at h1; cases h1
            have hB7 : Below w.heap.size w w7 := hBwr.trans (hb7.mono (by omega))
            clear RC hb7
            go_wp2
            refine bodyPost_ret (v := .tuple #[.slice none 0 0, .int .i64 3]) (by simp [results, Tryz.results32, go_sem]) rfl (AppQPost.no HR.out ?_)
            repeat (first|exact bzR _ _|exact hB7|refine bzD ?_|refine bzN ?_|refine bzS ?_|refine bzA ?_)
          | some h =>
            have HEN := Lib.hid hend
            have hhl : h.length = R := (afterF_len hend).trans HUL.out
            have hhr : RectF 1 h := (afterF_ok HUR.out.1 HUR.out.2 (fun k hk => ⟨(HIN.out k hk).a0, (HIN.out k hk).a1⟩) (Nat.le_refl _) hend).1
            have HHL := Lib.hid (And.intro hhl hhr)
            clear hend hhl hhr
            go_wp2_with fail
            (with_reducible refine (RC.out _ ?_).mono ?_); (repeat (first|exact bzR _ _|exact hBw|refine bzD ?_|refine bzN ?_|refine bzS ?_|refine bzA ?_))
            rintro e w7 ⟨(⟨h', h1, rfl, hr7⟩ | ⟨h1, -⟩), hb7⟩
            rotate_left
            · rw [HEN.out] at h1; cases h1
            rw [HEN.out] at h1
            cases h1
            have hB7 : Below w.heap.size w w7 := hBwr.trans (hb7.mono (by omega))
            obtain ⟨p0, p1, p2, p3⟩ := HS.out w7 (hBr.trans (by rw [HRB.out]; exact hb7))
            have zp := cell_lt p0
            have HR7 := Lib.hid hr7
            have OC := Lib.hid (fun V (q : Below w7.heap.size w7 V) => outsQ_c ins (R : Int) ca oa code.length cc oc outs rb R 1 h V (HC.out.2.keep (bthen hB7 q)) (fun k hk => by rw [HHL.out.1]; exact HOS.out k hk) ⟨_, HR7.out.keep q⟩ HHL.out.2 (Nat.le_refl _) (by omega) hol)
            rw [HHL.out.1] at OC
            have hBx := Below.refl w7.heap.size w7
            clear RC hb7 hr7 hBw
            go_wp2_with fail
            (with_reducible refine (OC.out _ ?_).mono ?_); (repeat (first|exact bzR _ _|exact hBx|refine bzD ?_|refine bzN ?_|refine bzS ?_|refine bzA ?_))
            rintro e w8 ⟨⟨v8, rfl, hv8⟩, hb8⟩
            have h78 : Below w7.heap.size w7 w8 := bthen (by repeat (first|exact bzR _ _|exact hBx|refine bzD ?_|refine bzN ?_|refine bzS ?_|refine bzA ?_)) hb8
            have HFL := Lib.hid (outsF_len outs h)
            have HFR := Lib.hid (show RectF 1 (outsF outs h) from fun i hi => by
              rw [outsF_len] at hi
              rw [outsF_get hi]
              obtain ⟨q1, q2⟩ := HOS.out i hi
              exact HHL.out.2 _ (by rw [HHL.out.1]; omega))
            have HV8 := Lib.hid ((ownP_isL0 hv8).psqs HFR.out (by omega))
            have HFT := Lib.hid (fun i (hi : i < (outsF outs h).length) => flatq_take hi)
            have HFE := Lib.hid (flatq_le (outsF outs h))
            have HFN := Lib.hid (flatF_len HFR.out)
            obtain ⟨a8, c8, rfl⟩ := hv8.ex
            have HY := Lib.hid (fun w' v hv hb => AppQPost.yes (w := w) (w' := w') (v := v) HP.out HNI.out (h := h) (by rw [HEQ.out]; exact HEN.out) hv hb)
            obtain ⟨F, hF⟩ : ∃ F, outsF outs h = F := ⟨_, rfl⟩
            rw [hF] at HFL HFR HV8 HFT HFE HFN HY ⊢
            rw [HFL.out] at HV8 HFN ⊢
            have hB8 := bthen hB7 h78
            have h88 := Below.refl w8.heap.size w8
            clear OC hb8 h78 hv8 hF hBx
            go_wp2
            go_loopw [11, 66] (fun v x wq => ∃ i : Nat, i ≤ outs.length ∧ x = .int .i64 i ∧ Hid (FrOwn IsQP 79 w8 wq v (F.take i).flatten)) (fun _ x _ => outs.length - (intOf x).toNat)
            case atStart => exact ⟨0, Nat.zero_le _, rfl, Lib.hid (FrOwn.nil _ _ h88)⟩
            case round =>
              rename World => wq
              obtain ⟨i, hi, rfl, hO⟩ := hrel
              have hbq := hO.out.bel
              by_cases hlt2 : i < outs.length
              · have hltJ : (i : Int) < (outs.length : Int) := by omega
                have hiF : i < F.length := by rw [HFL.out]; exact hlt2
                obtain ⟨c', gb, go, ub, uo, uc, e2, hu, hI⟩ := (HV8.out.keep prs_psq hbq).psq hiF
                obtain ⟨rfl, -, rfl⟩ := Value.slice.inj e2
                have HSX := Lib.hid (HFT.out i hiF)
                have hS1 := HFE.out (i + 1)
                rw [HSX.out, List.length_append, HFN.out, Nat.mul_one] at hS1
                obtain ⟨L, hL⟩ : ∃ L, (F.take i).flatten = L := ⟨_, rfl⟩
                obtain ⟨r, hr⟩ : ∃ r, F.getD i [] = r := ⟨_, rfl⟩
                rw [hL] at hO HSX hS1
                rw [hr] at HSX hS1 hu hI
                have HI := Lib.hid hI
                have zu := cell_lt hu
                obtain ⟨xa, xc, hov⟩ := hO.out.ex
                subst hov
                clear hL hr e2 hI
                go_wp2_with (at_builtin; refine app_catQ (by rfl) (by rfl) hO.out HI.out (by rfl) (by rfl) (by omega) ?_)
                intro v' w9 HO9
                rw [← HSX.out] at HO9
                go_wp2
                exact ⟨⟨i + 1, by omega, by go_num, HO9⟩, by simp [intOf]; omega⟩
              · obtain rfl : i = outs.length := by omega
                rw [show F.take outs.length = F from by rw [← HFL.out]; exact List.take_length] at hO
                have HRW := Lib.hid (show FRow 0 wq _ F.flatten from FrRow.rebase hO.out.row (Nat.zero_le _))
                have hBq := bthen hB8 hbq
                have hltJ : ¬ (outs.length : Int) < (outs.length : Int) := by omega
                obtain ⟨xa, xc, hov⟩ := hO.out.ex
                subst hov
                obtain ⟨N, hN⟩ : ∃ N, F.flatten.length = N := ⟨_, rfl⟩
                rw [hN] at HRW ⊢
                clear hO hN
                go_wp2
                refine bodyPost_ret (v := .tuple #[.slice xa N xc, .int .i64 0]) (by simp [results, Tryz.results32, go_sem]) rfl (HY.out _ _ HRW.out hBq)
    · have HR := Lib.hid (show AppNo ins regs code outs l 5 from .inr (.inl ⟨hp, hn, rfl⟩))
      have hdn : ((l.length : Int) != ins) = true := by simpa using hn
      clear hp hn
      go_enter Tryz.func32, Tryz.ntmps32
      go_wp2_with fail
      (with_reducible refine (CP.out _ ?_).mono ?_); (repeat (first|exact bzR _ _|exact hB|refine bzD ?_|refine bzN ?_|refine bzS ?_|refine bzA ?_))
      rintro e w1 ⟨⟨r1, rfl⟩, hb1⟩
      have p0 : w1.cell? ⟨w.heap.size, 0, none⟩ = some (.int .i64 ins) := bkc hb1
      have zp0 := cell_lt p0
      have p1 : w1.cell? ⟨w.heap.size, 1, none⟩ = some (.int .i64 regs) := bkc hb1
      have p2 : w1.cell? ⟨w.heap.size, 2, none⟩ = some (.slice ca code.length cc) := bkc hb1
      have p3 : w1.cell? ⟨w.heap.size, 3, none⟩ = some (.slice oa outs.length oc) := bkc hb1
      have hB : Below w.heap.size w w1 := bthen (by repeat (first|exact bzR _ _|exact hB|refine bzD ?_|refine bzN ?_|refine bzS ?_|refine bzA ?_)) hb1
      have hz : w.heap.size ≤ w1.heap.size := hB.size
      clear CP hb1
      go_wp2
      refine bodyPost_ret (v := .tuple #[.slice none 0 0, .int .i64 5]) (by simp [results, Tryz.results32, go_sem]) rfl (AppQPost.no HR.out ?_)
      repeat (first|exact bzR _ _|exact hB|refine bzD ?_|refine bzN ?_|refine bzS ?_|refine bzA ?_)
  · have CP := Lib.hid (fun V (h : Below w.heap.size w V) => check_no (HC.out.1.keep h) (HC.out.2.keep h) hp)
    have HR := Lib.hid (show AppNo ins regs code outs l 80 from .inl ⟨hp, rfl⟩)
    clear hp
    go_enter Tryz.func32, Tryz.ntmps32
    go_wp2_with fail
    (with_reducible refine (CP.out _ ?_).mono ?_); (repeat (first|exact bzR _ _|exact hB|refine bzD ?_|refine bzN ?_|refine bzS ?_|refine bzA ?_))
    rintro e w1 ⟨⟨r1, rfl⟩, hb1⟩
    have p0 : w1.cell? ⟨w.heap.size, 0, none⟩ = some (.int .i64 ins) := bkc hb1
    have zp0 := cell_lt p0
    have p1 : w1.cell? ⟨w.heap.size, 1, none⟩ = some (.int .i64 regs) := bkc hb1
    have p2 : w1.cell? ⟨w.heap.size, 2, none⟩ = some (.slice ca code.length cc) := bkc hb1
    have p3 : w1.cell? ⟨w.heap.size, 3, none⟩ = some (.slice oa outs.length oc) := bkc hb1
    have hB : Below w.heap.size w w1 := bthen (by repeat (first|exact bzR _ _|exact hB|refine bzD ?_|refine bzN ?_|refine bzS ?_|refine bzA ?_)) hb1
    have hz : w.heap.size ≤ w1.heap.size := hB.size
    clear CP hb1
    go_wp2
    refine bodyPost_ret (v := .tuple #[.slice none 0 0, .int .i64 80]) (by simp [results, Tryz.results32, go_sem]) rfl (AppQPost.no HR.out ?_)
    repeat (first|exact bzR _ _|exact hB|refine bzD ?_|refine bzN ?_|refine bzS ?_|refine bzA ?_)
end Go.Proofs.YtbmaffijncapiaaGreatDoor

/- denote, plain: what a program makes of numbers is its rows summed up with these. -/
namespace Go.Proofs.YtbmaffijncapiaaGreatDoor
open Num
def dotN (r : List Rat) (x : List Int) : Nat → Rat
  | 0 => 0
  | n + 1 => dotN r x n + r.getD n 0 * ((x.getD n 0 : Int) : Rat)
theorem opQ_zero (i : Ins) : opQ i 0 0 = 0 := by
  unfold opQ
  (repeat' split) <;> (try simp [Rat.div_def, Rat.zero_mul]) <;> (try grind)
theorem opQ_add (i : Ins) (a b c d : Rat) : opQ i (a + c) (b + d) = opQ i a b + opQ i c d := by
  unfold opQ
  (repeat' split) <;> (try simp only [Rat.div_def]) <;> grind
theorem opQ_mul (i : Ins) (a b c : Rat) : opQ i (a * c) (b * c) = opQ i a b * c := by
  unfold opQ
  (repeat' split) <;> (try simp only [Rat.div_def]) <;> grind
theorem dotN_row (i : Ins) (A B : List Rat) (x : List Int) : ∀ n, n ≤ A.length → dotN (rowF i A B) x n = opQ i (dotN A x n) (dotN B x n)
  | 0, _ => (opQ_zero i).symm
  | n + 1, h => by
    rw [dotN, dotN_row i A B x n (by omega), rowF_get i A B (by omega), dotN, dotN, opQ_add, opQ_mul]
theorem dotN_unit {r : List Rat} {x : List Int} {k : Nat} {m : Nat} (hr : ∀ j, j < m → r.getD j 0 = if j = k then 1 else 0) : ∀ n, n ≤ m → dotN r x n = if k < n then ((x.getD k 0 : Int) : Rat) else 0
  | 0, _ => by rw [dotN, if_neg (by omega)]
  | n + 1, h => by
    rw [dotN, dotN_unit hr n (by omega), hr n (by omega)]
    by_cases e : n = k
    · subst e
      rw [if_neg (by omega), if_pos rfl, if_pos (by omega)]; grind
    · rw [if_neg e]
      by_cases e2 : k < n
      · rw [if_pos e2, if_pos (by omega)]; grind
      · rw [if_neg e2, if_neg (by omega)]; grind
theorem dotN_add {r : List Rat} {x y z : List Int} : ∀ n, (∀ j, j < n → z.getD j 0 = x.getD j 0 + y.getD j 0) → dotN r z n = dotN r x n + dotN r y n
  | 0, _ => by simp [dotN, Rat.zero_add]
  | n + 1, h => by
    rw [dotN, dotN, dotN, dotN_add n (fun j hj => h j (by omega)), h n (by omega), Rat.intCast_add]; grind
theorem sumQ_dot (r : List Rat) (x : List Int) (m : Nat) : sumQ ((List.range m).map fun j => r.getD j 0 * ((x.getD j 0 : Int) : Rat)) = dotN r x m := by
  induction m with
  | zero => rfl
  | succ m ih =>
    rw [List.range_succ, List.map_append, sumQ, List.foldl_append]
    have : List.foldl (· + ·) 0 ((List.range m).map fun j => r.getD j 0 * ((x.getD j 0 : Int) : Rat)) = dotN r x m := ih
    rw [this]; rfl
theorem after_dot {code : List Ins} {l : List Int} {m R : Nat} (hl : l.length = m) (hmR : m ≤ R) (hin : ∀ n, n < code.length → InsOk (code.getD n default) R) : ∀ n, n ≤ code.length → ∀ s t, afterF code (unitsF m R) n = some s → afterF code (inF l R) n = some t → ∀ k, k < R → t.getD k [] = [dotN (s.getD k []) l m]
  | 0, _, s, t, hs, ht, k, hk => by
    cases hs; cases ht
    rw [inF_get hk, dotN_unit (k := k) (m := m) (fun j hj => unitsF_at hk hj) m (Nat.le_refl _), hl]
  | n + 1, hn, s, t, hs, ht, k, hk => by
    cases hs1 : afterF code (unitsF m R) n with
    | none => rw [afterF_mono hs1 (Nat.le_succ n)] at hs; cases hs
    | some s1 =>
      cases ht1 : afterF code (inF l R) n with
      | none => rw [afterF_mono ht1 (Nat.le_succ n)] at ht; cases ht
      | some t1 =>
        have ih := after_dot hl hmR hin n (by omega) s1 t1 hs1 ht1
        have hi := hin n (by omega)
        have hsl : s1.length = R := (afterF_len hs1).trans (unitsF_len m R)
        have htl : t1.length = R := (afterF_len ht1).trans (inF_len l R)
        have hsr := (afterF_ok (unitsF_rect m R) (unitsF_slim m R) (fun j hj => by rw [unitsF_len]; exact ⟨(hin j hj).a0, (hin j hj).a1⟩) (show n ≤ code.length by omega) hs1).1
        rw [afterF_next hs1] at hs
        rw [afterF_next ht1] at ht
        split at hs
        · split at ht
          · cases hs; cases ht
            have ha : (code.getD n default).a.toNat < R := by have := hi.a0; have := hi.a1; omega
            have hb : (code.getD n default).b.toNat < R := by have := hi.b0; have := hi.b1; omega
            have ht0 : (code.getD n default).to.toNat < R := by have := hi.t0; have := hi.t1; omega
            rw [gsetF _ _ _ (by omega), gsetF _ _ _ (by omega)]
            by_cases e : k = (code.getD n default).to.toNat
            · rw [if_pos e, if_pos e, toldQ_eq hs1, toldQ_eq ht1, ih _ ha, ih _ hb, dotN_row _ _ _ _ _ (Nat.le_of_eq (hsr _ (by omega)).symm)]
              rfl
            · rw [if_neg e, if_neg e]; exact ih k hk
          · cases ht
        · cases hs
end Go.Proofs.YtbmaffijncapiaaGreatDoor

/- denote, plain: what Apply answers is the rows of the program, each summed up with the numbers. -/
namespace Go.Proofs.YtbmaffijncapiaaGreatDoor
open Num
theorem flat_one {α β : Type} (f : α → β) : ∀ l : List α, (l.map fun k => [f k]).flatten = l.map f
  | [] => rfl
  | a :: l => by rw [List.map_cons, List.flatten_cons, flat_one f l]; rfl
theorem map_same {α : Type} {g : Int → α} {f : Int → α} {outs : List Int} (h : ∀ i, i < outs.length → g (outs.getD i 0) = f (outs.getD i 0)) : outs.map g = outs.map f := by
  apply List.map_congr_left
  intro k hk
  obtain ⟨i, hi, rfl⟩ := List.getElem_of_mem hk
  have e : outs.getD i 0 = outs[i] := by simp [hi]
  rw [← e]
  exact h i hi
theorem appD_dot {ins regs : Int} {code : List Ins} {outs l : List Int} {h S : GridF} (hp : ProgOk ins regs code outs) (hl : (l.length : Int) = ins) (hx : endA l regs code = some h) (hs : endF ins regs code = some S) :
    (outsF outs h).flatten = (outsF outs S).map fun r => dotN r l l.length := by
  obtain ⟨R, rfl⟩ : ∃ R : Nat, regs = R := ⟨regs.toNat, by have := hp.i1; have := hp.i2; omega⟩
  subst hl
  have hlR : l.length ≤ R := by have := hp.i2; omega
  unfold endA at hx
  unfold endF at hs
  rw [Int.toNat_natCast] at hx hs
  rw [Int.toNat_natCast] at hs
  have key := after_dot rfl hlR (fun n hn => by have := ins_ofF hp hn; rwa [Int.toNat_natCast] at this) code.length (Nat.le_refl _) S h hs hx
  unfold outsF
  rw [List.map_map, ← flat_one ((fun r => dotN r l l.length) ∘ fun k : Int => S.getD k.toNat [])]
  congr 1
  refine map_same fun i hi => ?_
  have h1 := hp.os i hi
  exact key _ (by omega)
theorem appD_len {ins regs : Int} {code : List Ins} {outs l : List Int} {h S : GridF} (hp : ProgOk ins regs code outs) (hl : (l.length : Int) = ins) (hx : endA l regs code = some h) (hs : endF ins regs code = some S) : (outsF outs h).flatten.length = outs.length := by
  rw [appD_dot hp hl hx hs]; simp [outsF]
theorem appD_at {ins regs : Int} {code : List Ins} {outs l : List Int} {h S : GridF} (hp : ProgOk ins regs code outs) (hl : (l.length : Int) = ins) (hx : endA l regs code = some h) (hs : endF ins regs code = some S) {i : Nat} (hi : i < outs.length) :
    (outsF outs h).flatten.getD i 0 = sumQ ((List.range l.length).map fun j => ((outsF outs S).getD i []).getD j 0 * ((l.getD j 0 : Int) : Rat)) := by
  rw [appD_dot hp hl hx hs, sumQ_dot]
  simp [outsF, hi]
theorem appD_add {ins regs : Int} {code : List Ins} {outs x y z : List Int} {hx hy hz S : GridF} (hp : ProgOk ins regs code outs) (lx : (x.length : Int) = ins) (ly : (y.length : Int) = ins) (lz : (z.length : Int) = ins)
    (ex : endA x regs code = some hx) (ey : endA y regs code = some hy) (ez : endA z regs code = some hz) (hs : endF ins regs code = some S) (hz' : ∀ j, j < x.length → z.getD j 0 = x.getD j 0 + y.getD j 0) {i : Nat} (hi : i < outs.length) :
    (outsF outs hx).flatten.getD i 0 + (outsF outs hy).flatten.getD i 0 = (outsF outs hz).flatten.getD i 0 := by
  have e1 : y.length = x.length := by omega
  have e2 : z.length = x.length := by omega
  rw [appD_at hp lx ex hs hi, appD_at hp ly ey hs hi, appD_at hp lz ez hs hi, sumQ_dot, sumQ_dot, sumQ_dot, e1, e2]
  exact (dotN_add x.length hz').symm
end Go.Proofs.YtbmaffijncapiaaGreatDoor

/- denote, plain: what the four answers that DenoteLinear asks for have in common. -/
namespace Go.Proofs.YtbmaffijncapiaaGreatDoor
open Num
theorem AppRes.ok {ins regs : Int} {code : List Ins} {outs l : List Int} {w : World} {v : Value} (h : AppRes ins regs code outs l w v 0) : ProgOk ins regs code outs ∧ (l.length : Int) = ins ∧ ∃ h, endA l regs code = some h ∧ FRow 0 w v (outsF outs h).flatten := by
  rcases h with ⟨h, -⟩ | ⟨h1, h2, -, h3⟩
  · rcases h with ⟨-, h⟩ | ⟨-, -, h⟩ | ⟨-, -, -, h⟩ <;> omega
  · exact ⟨h1, h2, h3⟩
theorem RowsRes.ok {ins regs : Int} {code : List Ins} {outs : List Int} {w w' : World} {v : Value} (h : RowsRes ins regs code outs w w' v 0) : ProgOk ins regs code outs ∧ ∃ h, endF ins regs code = some h ∧ OwnP w.heap.size w w' v (outsF outs h) := by
  rcases h with ⟨-, h, -⟩ | ⟨-, -, h, -⟩ | ⟨h1, h, h2, -, h3⟩
  · omega
  · omega
  · exact ⟨h1, h, h2, h3⟩
theorem endA_ok {ins regs : Int} {code : List Ins} {outs l : List Int} {h : GridF} (hp : ProgOk ins regs code outs) (hb : ∀ j, Bd 65000 (l.getD j 0)) (e : endA l regs code = some h) : RectF 1 (outsF outs h) ∧ SlimG (outsF outs h) := by
  unfold endA at e
  have hl := (afterF_len e).trans (inF_len _ _)
  have hk := afterF_ok (inF_rect l regs.toNat) (inF_slim regs.toNat hb) (fun n hn => by have := ins_ofF hp hn; rw [inF_len]; exact ⟨this.a0, this.a1⟩) (Nat.le_refl _) e
  have hi : ∀ i, i < outs.length → (outs.getD i 0).toNat < h.length := fun i hi => by have := hp.os i hi; omega
  refine ⟨fun i hj => ?_, fun i hj => ?_⟩
  · rw [outsF_len] at hj; rw [outsF_get hj]; exact hk.1 _ (hi i hj)
  · rw [outsF_len] at hj; rw [outsF_get hj]; exact hk.2 _ (hi i hj)
theorem flat1 : ∀ {g : GridF}, RectF 1 g → ∀ i, g.flatten.getD i 0 = (g.getD i []).getD 0 0
  | [], _, i => by simp
  | r :: g, h, i => by
    have h0 : r.length = 1 := h 0 (by simp)
    obtain ⟨q, rfl⟩ : ∃ q, r = [q] := List.length_eq_one_iff.1 h0
    cases i with
    | zero => rfl
    | succ i => exact flat1 (g := g) (fun j hj => h (j + 1) (by simpa using hj)) i
theorem slim_flat {g : GridF} (h1 : RectF 1 g) (h2 : SlimG g) {i : Nat} (hi : i < g.length) : BdQ 65536 (g.flatten.getD i 0) := by
  rw [flat1 h1]
  exact h2 i hi 0 (by rw [h1 i hi]; omega)
structure LinOk (m n : Nat) (G : GridF) (x : List Int) (U V W : List Rat) : Prop where
  gl : G.length = m
  ul : U.length = m
  vl : V.length = m
  wl : W.length = m
  row : ∀ i, i < m → (G.getD i []).length = n
  gb : ∀ i j, i < m → j < n → BdQ 65536 ((G.getD i []).getD j 0)
  ub : ∀ i, i < m → BdQ 65536 (U.getD i 0)
  vb : ∀ i, i < m → BdQ 65536 (V.getD i 0)
  wb : ∀ i, i < m → BdQ 65536 (W.getD i 0)
  dot : ∀ i, i < m → sumQ ((List.range n).map fun j => (G.getD i []).getD j 0 * ((x.getD j 0 : Int) : Rat)) = U.getD i 0
  add : ∀ i, i < m → U.getD i 0 + V.getD i 0 = W.getD i 0
theorem linOk {n : Nat} {regs : Int} {code : List Ins} {outs x y z : List Int} {hx hy hz S : GridF} (hp : ProgOk (n : Int) regs code outs) (lx : x.length = n) (ly : y.length = n) (lz : z.length = n)
    (ex : endA x regs code = some hx) (ey : endA y regs code = some hy) (ez : endA z regs code = some hz) (hs : endF (n : Int) regs code = some S) (hadd : ∀ j, j < n → z.getD j 0 = x.getD j 0 + y.getD j 0)
    (bx : ∀ j, Bd 65000 (x.getD j 0)) (by' : ∀ j, Bd 65000 (y.getD j 0)) (bz : ∀ j, Bd 65000 (z.getD j 0)) :
    LinOk outs.length n (outsF outs S) x (outsF outs hx).flatten (outsF outs hy).flatten (outsF outs hz).flatten := by
  have kx := endA_ok hp bx ex
  have ky := endA_ok hp by' ey
  have kz := endA_ok hp bz ez
  have ks := endF_ok hp hs
  rw [Int.toNat_natCast] at ks
  have gx : (x.length : Int) = (n : Int) := by omega
  have gy : (y.length : Int) = (n : Int) := by omega
  have gz : (z.length : Int) = (n : Int) := by omega
  refine ⟨outsF_len _ _, appD_len hp gx ex hs, appD_len hp gy ey hs, appD_len hp gz ez hs, fun i hi => ks.1 i (by rw [outsF_len]; exact hi), fun i j hi hj => ks.2 i (by rw [outsF_len]; exact hi) j (by rw [ks.1 i (by rw [outsF_len]; exact hi)]; exact hj),
    fun i hi => slim_flat kx.1 kx.2 (by rw [outsF_len]; exact hi), fun i hi => slim_flat ky.1 ky.2 (by rw [outsF_len]; exact hi), fun i hi => slim_flat kz.1 kz.2 (by rw [outsF_len]; exact hi), fun i hi => ?_, fun i hi => ?_⟩
  · rw [appD_at hp gx ex hs hi, lx]
  · exact appD_add hp gx gy gz ex ey ez hs (fun j hj => hadd j (by omega)) hi
theorem rangeQ_snoc (f : Nat → Rat) (j : Nat) : (List.range j).map f ++ [f j] = (List.range (j + 1)).map f := by
  rw [List.range_succ, List.map_append]; rfl
theorem mulQ_bdg {a b c : Nat} {r : Rat} {x : Int} (e : a + b = c) (hb : 1 ≤ b) (h : BdQ a r) (hx : Bd b x) : BdQ c (r * ((x : Int) : Rat)) := by
  subst e; exact h.mul (BdQ.whole hx hb)
theorem mulQ_bd {r : Rat} {x : Int} (h : BdQ 65536 r) (hx : Bd 64 x) : BdQ 65600 (r * ((x : Int) : Rat)) := mulQ_bdg (by omega) (by omega) h hx
theorem sumRange_bd {n : Nat} {f : Nat → Rat} (h : ∀ j, j < n → BdQ 65600 (f j)) : ∀ j, j < ((List.range n).map f).length → BdQ 65600 (((List.range n).map f).getD j 0) := fun j hj => by
  rw [List.length_map, List.length_range] at hj
  have e : ((List.range n).map f).getD j 0 = f j := by simp [hj]
  rw [e]; exact h j hj
end Go.Proofs.YtbmaffijncapiaaGreatDoor

