/- Texts of this seat, laid together (what the earlier ones leave out): Row, VmP, VmC, VmD, MxA, MxB, GrT, MxC, Det, Bed, MxE, MxF, MwK, MwS. Each opens with its own remark, which says what it proves, and under which conditions. -/
import Derived.Test.YtbmaffijncapiaaGreatDoorL01
import Derived.Test.YtbmaffijncapiaaGreatDoorL02
import Derived.Test.YtbmaffijncapiaaGreatDoorL03
import Derived.Test.YtbmaffijncapiaaGreatDoorL04
import Derived.Test.YtbmaffijncapiaaGreatDoorL05
import Derived.Test.YtbmaffijncapiaaGreatDoorL06
import Derived.Test.YtbmaffijncapiaaGreatDoorL07
import Derived.Test.YtbmaffijncapiaaGreatDoorL08
import Derived.Test.YtbmaffijncapiaaGreatDoorL09
import Derived.Test.YtbmaffijncapiaaGreatDoorL10
import Derived.Test.YtbmaffijncapiaaGreatDoorL11
import Derived.Test.YtbmaffijncapiaaGreatDoorL12
import Derived.Test.YtbmaffijncapiaaGreatDoorL13
import Derived.Test.YtbmaffijncapiaaGreatDoorL14
import Derived.Test.YtbmaffijncapiaaGreatDoorL15
import Derived.Test.YtbmaffijncapiaaGreatDoorL16
import Derived.Test.YtbmaffijncapiaaGreatDoorL17
import Derived.Test.YtbmaffijncapiaaGreatDoorL18
import Derived.Test.YtbmaffijncapiaaGreatDoorL19
import Derived.Test.YtbmaffijncapiaaGreatDoorL20
import Derived.Test.YtbmaffijncapiaaGreatDoorL21
import Derived.Test.YtbmaffijncapiaaGreatDoorL22
import Derived.Test.YtbmaffijncapiaaGreatDoorL23
import Derived.Test.YtbmaffijncapiaaGreatDoorL24
import Derived.WalkKit
import Derived.ProofKit
import Derived.OpenShut
import Derived.Deep.QuietTactic
import Derived.BigQuiet
import Derived.Outline
import Derived.Lib.Hide
import Derived.WalkSmall
import Derived.WalkSpells
import Derived.WalkLawsBesides
import Derived.Deep.RegionWith
import Derived.Deep.RegionHeld3
import Derived.Laws.CopyOwn
import Derived.Shelf.Small.Bits
import Derived.Laws.AppendOwn
import Derived.Deep.AppendLies
import Derived.OneCell
import Derived.Laws.BitsAllLaws
import Derived.Shelf.Spec.TrailingZeros
import Derived.Shelf.Strings.Builder1
import Derived.Shelf.Strings.Trim
import Derived.Deep.Cut
import Derived.Deep.DeepCutAuto
import Derived.ArgAppend
import Derived.Deep.DeepFit
import Derived.Shelf.Abstract
import Derived.Laws.EntriesVeiled
import Derived.RegionTactic
import Derived.ChangeAlike
import Derived.Laws.OwnMore
import Derived.Deep.Onto
import Derived.Deep.DrawnRows
import Derived.Deep.RegionLaw
import Derived.Deep.LoopGhost
import Derived.RangeFuncNested
import Derived.RangeFuncBound
import Derived.RangeFuncCalls
import Derived.RangeFuncLeaves
import Derived.Shelf.RegionOpen
import Derived.OwnWalkIn
import Derived.TacticsInMore
import Derived.LoopNIn
import Derived.LoopIn
import Derived.Laws.CopyRow
import Derived.Laws.Rows
import Derived.Laws.Tables
import Derived.StillTail
import Derived.Deep.Quiet
import Derived.StillTailTactics
import Derived.Lib.AppendZeros
import Derived.Laws.IdiomStrings
import Derived.Laws.BytesArg
import Derived.Laws.RangeString
import Derived.Lib.OthersKept
import Derived.Maps.AppendAt
import Derived.Shelf.Strings.OnBuilder
import Derived.Lib.SmallJoins
import Derived.Deep.Slices
import Derived.Deep.Matrix
import Derived.Deep.Fields
import Derived.ChangeSame
import Derived.DataShut
import Derived.SizedLaws
set_option linter.unusedVariables false
set_option linter.unusedSimpArgs false
namespace Go.Proofs.YtbmaffijncapiaaGreatDoor
open Go.ChangeShapes Go.WideShapes Go.ChangeAt Go.RowKit
theorem belA {B : Nat} {a b : World} (h : Below B a b := by repeat (first | exact Below.refl _ _ | assumption | refine Below.drew ?_ | refine below_drewN ?_ _ | refine bset ?_ (by simp <;> omega) _ | refine bal ?_ _)) : Below B a b := h
end Go.Proofs.YtbmaffijncapiaaGreatDoor
/- Rows of numbers as values; rows of rows. 'Kp S w w'': the blocks of the types S are as they were. -/
namespace Go.Proofs.YtbmaffijncapiaaGreatDoor
open Num
open Go.ChangeShapes Go.WideShapes Go.ChangeAt Go.RowKit
section
variable {S : TypeId → Prop} {a b c w w' : World}
end
section
variable {R : World → Value → Int → Prop} {E : TypeId} {base : Nat} {w w' : World} {v : Value} {l : List Int}
theorem OwnF.row {w0 wr : World} (h : OwnF R E w0 wr v l.length (fun k => l.getD k 0)) : IsRow R E w0.heap.size wr v l := by
  obtain ⟨xs, ⟨⟨hl, h1⟩, hB⟩, h2⟩ := h
  rcases h1 with ⟨rfl, h0⟩ | ⟨g, cap, cur, rfl, hg, hh, hc, hm, hs, ht⟩
  · have : l = [] := List.length_eq_zero_iff.1 h0
    subst this
    exact IsRow.nil R E _ _
  · refine ⟨_, cap, rfl, hc, hm, .inr ⟨g, 0, rfl, hg, by unfold typOf; rw [hh], fun k hk => ?_⟩⟩
    obtain ⟨nb, a, len, c, k1, k2, k3⟩ := h2 k hk
    have cel : ∀ j u, xs[j]? = some u → wr.cell? ⟨g, j, none⟩ = some u := fun j u hj => by
      have hj2 : j < l.length * 2 := by have := (List.getElem?_eq_some_iff.1 hj).1; omega
      rw [← ht, List.getElem?_take_of_lt (by omega)] at hj
      simpa [World.cell?, hh] using hj
    exact ⟨nb, a, len, c, by rw [Nat.zero_add]; exact cel _ _ k1, by rw [Nat.zero_add]; exact cel _ _ k2, k3⟩
end
section
variable {R : World → Value → Int → Prop} {E T : TypeId} {base : Nat} {w w' : World} {v : Value} {g : List (List Int)}
end
section
variable {R : World → Value → Int → Prop} {E T : TypeId} {base : Nat} {w0 wr w' : World} {v : Value} {g : List (List Int)}
end
section
variable {P : Program} {TT T E : TypeId} {base bytes : Nat} {R : World → Value → Int → Prop} {ops : Array Oper} {o : Oper} {a : Act} {Q : Exit → Act → World → Prop} {w0 wr : World} {v u : Value} {g : List (List Int)} {l : List Int} {t : TypeId} {s x : Operand} {cc : Nat}
end
end Go.Proofs.YtbmaffijncapiaaGreatDoor

/- vm, in plain Lean: what an instruction does to the registers, what a program comes to. -/
namespace Go.Proofs.YtbmaffijncapiaaGreatDoor
open Num
theorem bd_zero {k : Nat} : Bd k 0 := by unfold Bd; exact Nat.pow_pos (by omega)
end Go.Proofs.YtbmaffijncapiaaGreatDoor

/- vm: 'always', and what does hands back. -/
namespace Go.Proofs.YtbmaffijncapiaaGreatDoor
open Num
open Go.ChangeShapes Go.WideShapes Go.ChangeAt Go.RowKit
theorem ens {f : Nat} {fn : Func} {c : Code} (hf : Tryz.prog.funcs[f]? = some fn) (hn : (fn.name == "runtime.NumGoroutine") = false) (hb : fn.body = some c) : Enters Tryz.prog f := enters_of hf hn hb
end Go.Proofs.YtbmaffijncapiaaGreatDoor

/- vm: a machine in memory; what keeps it. -/
namespace Go.Proofs.YtbmaffijncapiaaGreatDoor
open Num
open Go.ChangeShapes Go.WideShapes Go.ChangeAt Go.RowKit
section
variable {S : TypeId → Prop} {w w' : World}
end
section
variable {base : Nat} {w w' : World} {b pb : Nat} {ins regs : Int} {code : List Ins} {outs : List Int} {rv : Value}
theorem Free.kp {S : TypeId → Prop} {g : Nat} {t : TypeId} (h : Free w g) (k : Kp S w w') (ht : typOf w g = some t) (hs : S t) : Free w' g :=
  ⟨typ_lt (k.typ ht hs), fun j => k.frz ht hs (h.2 j)⟩
end
end Go.Proofs.YtbmaffijncapiaaGreatDoor

/- matrix: matrices as values; filled. -/
namespace Go.Proofs.YtbmaffijncapiaaGreatDoor
open Num
open Go.ChangeShapes Go.WideShapes Go.ChangeAt Go.RowKit
attribute [local go_sem ↓] Go.wp_at_zero Go.wp_at_succ
def tab (n m : Nat) (f : Nat → Nat → Int) : Grid := (List.range n).map fun i => (List.range m).map (f i)
theorem tab_len (n m : Nat) (f : Nat → Nat → Int) : (tab n m f).length = n := by simp [tab]
theorem tab_row {n m : Nat} {f : Nat → Nat → Int} {i : Nat} (h : i < n) : (tab n m f).getD i [] = (List.range m).map (f i) := by simp [tab, h]
theorem tab_rowlen {n m : Nat} {f : Nat → Nat → Int} {i : Nat} (h : i < n) : ((tab n m f).getD i []).length = m := by rw [tab_row h]; simp
theorem tab_at {n m : Nat} {f : Nat → Nat → Int} {i j : Nat} (h : i < n) (hj : j < m) : ((tab n m f).getD i []).getD j 0 = f i j := by rw [tab_row h]; simp [hj]
def FnF (f : Nat → Nat → Int) (n m F : Nat) (caps : Array Value) (w : World) : Prop :=
  ∀ W i j, i < n → j < m → Below w.heap.size w W → Calls Tryz.prog F (#[.int .i64 (i : Nat), .int .i64 (j : Nat)] ++ caps) W fun e w' => (∃ v, e = .returned v ∧ IsInt w' v (f i j)) ∧ Below W.heap.size W w'
theorem range_snoc {α : Type} (f : Nat → α) (n : Nat) : (List.range (n + 1)).map f = (List.range n).map f ++ [f n] := by rw [List.range_succ, List.map_append]; rfl
theorem range_getD (f : Nat → Int) {n k : Nat} (h : k < n) : ((List.range n).map f).getD k 0 = f k := by simp [h]
theorem snoc_fn (f : Nat → Int) (j : Nat) : ∀ k, k < j + 1 → (fun i => if i = j then f j else f i) k = f k := by
  intro k hk; dsimp only; split
  · subst_vars; rfl
  · rfl
set_option maxRecDepth 100000 in
set_option maxHeartbeats 8000000 in
theorem filled_c (n m : Nat) (f : Nat → Nat → Int) (F : Nat) (caps : Array Value) (w : World) (hF : FnF f n m F caps w) (eF : Enters Tryz.prog F) (hn : n ≤ 1099511627776) (hm : m ≤ 1099511627775) :
    Calls Tryz.prog 138 #[.int .i64 (n : Nat), .int .i64 (m : Nat), .func (.func F) #[] caps] w fun e w' => (∃ v, e = .returned v ∧ IsM w.heap.size w' v (tab n m f)) ∧ Below w.heap.size w w' := by
  have HF := Lib.hid hF
  clear hF
  have hB := Below.refl w.heap.size w
  unfold Enters at eF
  go_enter Tryz.func138, Tryz.ntmps138
  go_wp2
  refine wp_name fun w0 hW0 => ?_
  have hB0 : Below w.heap.size w w0 := by rw [hW0]; repeat (first|exact bzR _ _|exact hB|refine bzD ?_|refine bzN ?_|refine bzS ?_|refine bzA ?_)
  have HR0 := Lib.hid (show w0.cell? ⟨w.heap.size, 0, none⟩ = some (.slice none 0 0) ∧ w0.frozen? ⟨w.heap.size, 0, none⟩ = false ∧ w0.cell? ⟨w.heap.size + 1, 0, none⟩ = some (.slice none 0 0) ∧ w0.frozen? ⟨w.heap.size + 1, 0, none⟩ = false from by rw [hW0]; simp [go_sem])
  have HT0 := Lib.hid (show typOf w0 w.heap.size = some 47 ∧ typOf w0 (w.heap.size + 1) = some 47 from by
    rw [hW0]; exact ⟨typ_alloc (typ_fresh rfl), typ_fresh (by simp)⟩)
  clear hW0
  go_loopw [12] (fun x wr => ∃ i : Nat, i ≤ n ∧ x = .int .i64 i ∧ Below w.heap.size w wr ∧ Hid (wr.cell? ⟨w.heap.size, 0, none⟩ = some (.slice none 0 0) ∧ wr.frozen? ⟨w.heap.size, 0, none⟩ = false ∧ wr.frozen? ⟨w.heap.size + 1, 0, none⟩ = false ∧ typOf wr w.heap.size = some 47 ∧ typOf wr (w.heap.size + 1) = some 47) ∧ Hid (∃ v, wr.cell? ⟨w.heap.size + 1, 0, none⟩ = some v ∧ OwnL 68 (PRow w.heap.size) w wr v (tab i m f))) (fun x _ => n - (intOf x).toNat)
  case atStart => exact ⟨0, Nat.zero_le _, rfl, hB0, Lib.hid ⟨HR0.out.1, HR0.out.2.1, HR0.out.2.2.2, HT0.out.1, HT0.out.2⟩, Lib.hid ⟨_, HR0.out.2.2.1, OwnL.nil _ _ hB0⟩⟩
  case round =>
    obtain ⟨i, hi, rfl, hBr, HR, HO⟩ := hrel
    obtain ⟨v, o0, hO⟩ := HO.out
    obtain ⟨r0, r0f, o0f, t0, t1⟩ := HR.out
    obtain ⟨oa, oc, hvv⟩ := hO.ex
    rw [tab_len] at hvv
    subst hvv
    have HO := Lib.hid hO
    have HTT := Lib.hid (And.intro t0 t1)
    clear hO t0 t1 HR
    have zr := cell_lt r0
    have zo := cell_lt o0
    by_cases hlt : i < n
    · have hltI : (i : Int) < (n : Int) := by omega
      obtain ⟨wq, hwq⟩ : ∃ wq, wr = wq := ⟨_, rfl⟩
      rw [hwq] at HO HTT hBr r0 r0f o0 o0f zr zo ⊢
      clear hwq
      have hBq := Below.refl wq.heap.size wq
      go_wp2
      go_loopw [9, 16] (fun v x wr => ∃ j : Nat, j ≤ m ∧ x = .int .i64 j ∧ Hid (OwnF IsInt 50 wq wr v j (f i))) (fun _ x _ => m - (intOf x).toNat)
      case atStart => exact ⟨0, Nat.zero_le _, rfl, Lib.hid (OwnF.nil _ _ _ hBq)⟩
      case round =>
        obtain ⟨j, hj, rfl, hF⟩ := hrel
        by_cases hlt2 : j < m
        · have hltJ : (j : Int) < (m : Int) := by omega
          have hbF := hF.out.bel
          have fc := fun W (h : Below wr.heap.size wr W) => HF.out W i j hlt hlt2 (bthen hBr (bthen hbF h))
          obtain ⟨fa, fcp, hfv⟩ : ∃ a c, _ = Value.slice a j c := by obtain ⟨a, c, h, _⟩ := hF.out.view; exact ⟨a, c, h⟩
          subst hfv
          have HSN := Lib.hid (snoc_fn (f i) j)
          obtain ⟨z, hz⟩ : ∃ z, f i j = z := ⟨_, rfl⟩
          rw [hz] at fc HSN
          clear hz
          have hBw := Below.refl wr.heap.size wr
          go_wp2_with fail
          go_at_fn F
          refine (fc _ (by repeat (first|exact bzR _ _|exact hBw|refine bzD ?_|refine bzN ?_|refine bzS ?_|refine bzA ?_))).mono ?_
          rintro e w5 ⟨⟨v5, rfl, hi5⟩, hb5⟩
          have hB5 : Below wr.heap.size wr w5 := bthen (by repeat (first|exact bzR _ _|exact hBw|refine bzD ?_|refine bzN ?_|refine bzS ?_|refine bzA ?_)) hb5
          have HF5 := Lib.hid (hF.out.below lims_int hB5)
          have HI5 := Lib.hid hi5
          obtain ⟨n5, a5, c5, l5, rfl, -⟩ := hi5
          unfold iv at *
          clear fc
          go_wp2_with (at_builtin; refine app_num elInt (by decide) lims_int (by rfl) (by rfl) HF5.out HI5.out (by rfl) (by rfl) (by omega) ?_)
          intro v' w8 hF8 _ _
          have HF8 := Lib.hid (hF8.congr' HSN.out)
          clear hF8
          go_wp2
          exact ⟨⟨j + 1, by omega, by go_num, HF8⟩, by simp [intOf]; omega⟩
        · obtain rfl : j = m := by omega
          have hbF := hF.out.bel
          have HRO := Lib.hid (show PRow w.heap.size wr _ ((List.range j).map (f i)) from (OwnF.row (w0 := wq) (l := (List.range j).map (f i)) (by
            rw [List.length_map, List.length_range]
            exact hF.out.congr' fun k hk => (range_getD (f i) hk).symm)).rebase hBr.size)
          obtain ⟨fa, fc, hfv⟩ : ∃ a c, _ = Value.slice a j c := by obtain ⟨a, c, h, _⟩ := hF.out.view; exact ⟨a, c, h⟩
          subst hfv
          have HOW := Lib.hid (HO.out.below (prs_prow _) hbF)
          have o0f := bkeepf hbF o0 o0f
          have r0f := bkeepf hbF r0 r0f
          have o0 := bkeep hbF o0
          have r0 := bkeep hbF r0
          have HT2 := Lib.hid (And.intro (typ_keep HTT.out.1 hbF) (typ_keep HTT.out.2 hbF))
          clear HTT HO
          have zo2 := cell_lt o0
          go_wp2_with (at_builtin; refine appL elRow (prs_prow _) (by decide) (by rfl) (by rfl) (HOW.out.below (prs_prow _) (bal (Below.refl _ _) _)) (HRO.out.keep lims_int (bal (Below.refl _ _) _)) (by rfl) (by rfl) (cell_new rfl rfl) (by rw [tab_len]; omega) (by rw [tab_len]; unfold maxLen; omega) ?_)
          intro v' w8 hO8 hk8
          have ha8 : Kp (· ≠ 68) wr w8 := ((Kp.refl _ wr).alloc _).trans hk8
          have o08 := ha8.cell HT2.out.2 (by decide) o0
          have o08f := ha8.frz HT2.out.2 (by decide) o0f
          have r08 := ha8.cell HT2.out.1 (by decide) r0
          have r08f := ha8.frz HT2.out.1 (by decide) r0f
          have HT8 := Lib.hid (And.intro (ha8.typ HT2.out.1 (by decide)) (ha8.typ HT2.out.2 (by decide)))
          have HO8 := Lib.hid hO8
          have hb8 := hO8.bel
          obtain ⟨a8, c8, hv8⟩ := hO8.ex
          rw [show (tab i j f ++ [(List.range j).map (f i)]) = tab (i + 1) j f from by unfold tab; rw [range_snoc]] at HO8 hv8
          rw [tab_len] at hv8
          subst hv8
          clear hO8 hk8 ha8 HT2 o0 o0f r0 r0f HRO HOW
          go_wp2
          refine ⟨⟨i + 1, by omega, by go_num, bset hb8 (by show w.heap.size ≤ w.heap.size + 1; omega) _, Lib.hid ⟨cell_far r08 (addr_ne (by omega)) _, by rw [World.frozen?_setCell]; exact r08f, by rw [World.frozen?_setCell]; exact o08f, by rw [typ_set]; exact HT8.out.1, by rw [typ_set]; exact HT8.out.2⟩, Lib.hid ⟨_, cell_here o08 _, HO8.out.set (prs_prow _) (p := ⟨w.heap.size + 1, 0, none⟩) HT8.out.2 (by decide) (by decide) (by show w.heap.size ≤ w.heap.size + 1; omega) _⟩⟩, by simp [intOf]; omega⟩
    · obtain rfl : i = n := by omega
      have HL := Lib.hid (HO.out.isL)
      clear HO
      go_wp2
      refine bodyPost_ret (v := .agg #[.slice oa i oc]) (by simp [results, Tryz.results138, go_sem, *]) rfl ⟨⟨_, rfl, ?_⟩, ?_⟩
      · refine ⟨oa, oc, by rw [tab_len], ?_⟩
        rw [tab_len]
        exact IsL.kp (S' := fun t => t ≠ 47) (prs_prow _) HL.out ((Kp.refl _ _).set (p := ⟨w.heap.size, 0, none⟩) (fun t ht => by rw [HTT.out.1] at ht; cases ht; exact fun h => h rfl) _) (fun t ht => by rcases ht with rfl | rfl <;> decide) (by decide)
      · exact bset hBr (by show w.heap.size ≤ w.heap.size; omega) _
end Go.Proofs.YtbmaffijncapiaaGreatDoor

/- matrix: Rows, Cols, square, Identity; a matrix in a variable. -/
namespace Go.Proofs.YtbmaffijncapiaaGreatDoor
open Num
open Go.ChangeShapes Go.WideShapes Go.ChangeAt Go.RowKit
attribute [local go_sem ↓] Go.wp_at_zero Go.wp_at_succ
theorem tab_gat {n m : Nat} {f : Nat → Nat → Int} {i j : Nat} (h : i < n) (hj : j < m) : gat (tab n m f) i j = f i j := tab_at h hj
theorem tab_rect (n m : Nat) (f : Nat → Nat → Int) : Rct (tab n m f) m := fun i hi => by rw [tab_len] at hi; exact tab_rowlen hi
theorem tab_cols {n m : Nat} (f : Nat → Nat → Int) (h : 0 < n) : cols (tab n m f) = m := tab_rowlen h
theorem IsL.elem {base : Nat} {w : World} {v : Value} {g : Grid} {m : Nat} (hr : Rct g m) (h : IsL 68 (PRow base) base w v g) {i j : Nat} (hi : i < g.length) (hj : j < m) :
    ∃ c gb go rb ro rc n a l k, v = .slice (some ⟨gb, go, none⟩) g.length c ∧ w.cell? ⟨gb, go + i, none⟩ = some (.slice (some ⟨rb, ro, none⟩) m rc) ∧ w.cell? ⟨rb, ro + j * 2, none⟩ = some (.bool n) ∧ w.cell? ⟨rb, ro + j * 2 + 1, none⟩ = some (.slice a l k) ∧ IsInt w (.agg #[.bool n, .slice a l k]) (gat g i j) := by
  obtain ⟨c, gb, go, ra, rc, e, hu, hp⟩ := h.row hi
  obtain ⟨a', c', he, -, vr⟩ := hp.view
  obtain ⟨rfl, -, rfl⟩ := Value.slice.inj he
  obtain ⟨rb, ro, n, ad, len, cp, rfl, c0, c1, hI⟩ := vr j (by rw [hr i hi]; exact hj)
  rw [hr i hi] at hu
  exact ⟨c, gb, go, rb, ro, rc, n, ad, len, cp, e, hu, c0, c1, hI⟩
theorem BoxM.row {b : Nat} {w : World} {g : Grid} (h : BoxM b w g) {i : Nat} (hi : i < g.length) :
    ∃ c gb go ra rc, w.cell? ⟨b, 0, none⟩ = some (.slice (some ⟨gb, go, none⟩) g.length c) ∧ w.cell? ⟨gb, go + i, none⟩ = some (.slice ra (g.getD i []).length rc) ∧ PRow 0 w (.slice ra (g.getD i []).length rc) (g.getD i []) := by
  obtain ⟨a, c, e, h⟩ := h
  obtain ⟨c', gb, go, ra, rc, e2, hu, hp⟩ := h.row hi
  obtain ⟨rfl, -, rfl⟩ := Value.slice.inj e2
  exact ⟨c, gb, go, ra, rc, e, hu, hp⟩
theorem BoxM.elem {b : Nat} {w : World} {g : Grid} {m : Nat} (hr : Rct g m) (h : BoxM b w g) {i j : Nat} (hi : i < g.length) (hj : j < m) :
    ∃ c gb go rb ro rc n a l k, w.cell? ⟨b, 0, none⟩ = some (.slice (some ⟨gb, go, none⟩) g.length c) ∧ w.cell? ⟨gb, go + i, none⟩ = some (.slice (some ⟨rb, ro, none⟩) m rc) ∧ w.cell? ⟨rb, ro + j * 2, none⟩ = some (.bool n) ∧ w.cell? ⟨rb, ro + j * 2 + 1, none⟩ = some (.slice a l k) ∧ IsInt w (.agg #[.bool n, .slice a l k]) (gat g i j) := by
  obtain ⟨a, c, e, h⟩ := h
  obtain ⟨c', gb, go, rb, ro, rc, n, ad, l, k, e2, hu, c0, c1, hI⟩ := h.elem hr hi hj
  obtain ⟨rfl, -, rfl⟩ := Value.slice.inj e2
  exact ⟨c, gb, go, rb, ro, rc, n, ad, l, k, e, hu, c0, c1, hI⟩
end Go.Proofs.YtbmaffijncapiaaGreatDoor

/- A region that draws its order: a head whose calls answer what their arguments say and only make memory, and a tail whose order is forced: one walk. -/
namespace Go.Proofs.YtbmaffijncapiaaGreatDoor
open Go.ChangeShapes Go.WideShapes Go.ChangeAt Go.RowKit
section
variable {P : Program} {ops : Array Oper} {md : Region.Mode} {C : World → Prop}
theorem headQ_any {n g : Nat} {L : Array Bool → Act → Prop} {Q : Exit → Act → World → Prop} (hL : ∀ ls a w, C w → L ls a → wpAny P md ops Q g ls a w) :
    ∀ (f : Nat) (ls : Array Bool) (a : Act) (w : World), C w → headQ P md ops C n L f ls a → wpAny P md ops Q (f + g) ls a w := by
  intro f
  induction f with
  | zero => intro ls a w hw h; rw [Nat.zero_add]; exact hL _ _ _ hw h
  | succ f ih =>
    intro ls a w hw h
    rw [Nat.add_right_comm]
    exact ⟨fun h0 => absurd h0 h.1, fun i hi => wpOp_of_qOp hw (fun a' w' hw' k => ih _ a' w' hw' k) (h.2 i hi).2⟩
end
theorem wp_region_quiet_tail {P : Program} {C : World → Prop} {id : Nat} {Q : Exit → Act → World → Prop} {a : Act} {w : World} {l : List Oper} (n : Nat) (hm : P.follows .mixedOrders = true) (hB : Region.lexTailB .any l.toArray n = true) (hC : C { w with drawn := w.drawn + 1 })
    (h : wpQuiet P l.toArray C (fun a' => ∀ w', C w' → wpList P l.toArray Q (l.drop n) a' w') (l.take n) a) : (Code.region id l.toArray true).wp P Q a w := by
  simp only [Region.lexTailB, Bool.and_eq_true, decide_eq_true_eq] at hB
  obtain ⟨⟨⟨⟨hsel, hn⟩, hs⟩, hc⟩, hlex⟩ := hB
  have hn' : n < l.length := by simpa using hn
  have ht : (l.take n).length = n := by rw [List.length_take]; omega
  have hd : (l.drop n).length = l.toArray.size - n := by simp
  have inv0 : HeadInv .any l.toArray n (Array.replicate l.toArray.size false) :=
    ⟨by simp, fun j oj _ hl => (by rw [getD_replicate_false] at hl; cases hl), fun t _ k => getD_in (by simpa using k) (getD_replicate_false _ _)⟩
  have H := headQ_lex (md := .any) (g := l.toArray.size - n) hsel hs hc hn (l.take n) 0 _ a (fun j hj => by
    have hj' : j < n := by rw [ht] at hj; exact hj
    simp [hj']) (by simpa using ht) inv0 (by rw [ht]; exact hlex) h
  refine wp_region_any hm ?_
  have := headQ_any (Q := Q) (g := l.toArray.size - n) (fun ls a' w' hw' hL => by
    have := wpAny_of_seq (md := .any) (Q' := Q) (l.drop n) n ls a' w' (fun j => by simp [List.getElem?_drop]) (by rw [hd]; exact hL.1) (hL.2 w' hw')
    rwa [hd] at this) _ _ _ _ hC H
  rw [ht, show n + (l.toArray.size - n) = l.toArray.size by omega] at this
  exact this
theorem wp_region_grow_tail {P : Program} {id : Nat} {Q : Exit → Act → World → Prop} {a : Act} {w : World} {l : List Oper} (n : Nat) (hm : P.follows .mixedOrders = true) (hB : Region.lexTailB .any l.toArray n = true)
    (h : wpQuiet P l.toArray (fun w' => ∃ s, w' = grow w s) (fun a' => ∀ w', Below w.heap.size w w' → wpList P l.toArray Q (l.drop n) a' w') (l.take n) a) : (Code.region id l.toArray true).wp P Q a w := by
  have e : (fun a' => ∀ w', Below w.heap.size w w' → wpList P l.toArray Q (l.drop n) a' w') = (fun a' => ∀ w', (∃ s, w' = grow w s) → wpList P l.toArray Q (l.drop n) a' w') := by
    funext a'
    exact propext ⟨fun h w' ⟨s, hs⟩ => h w' (hs ▸ s.below), fun h w' hb => h w' ⟨⟨w', hb⟩, rfl⟩⟩
  rw [e] at h
  exact wp_region_quiet_tail (C := fun w' => ∃ s, w' = grow w s) n hm hB ⟨⟨w.drew, (Below.refl _ _).drew⟩, rfl⟩ h
end Go.Proofs.YtbmaffijncapiaaGreatDoor

/- matrix: Plus, Scale, Turn, Times. -/
namespace Go.Proofs.YtbmaffijncapiaaGreatDoor
open Num
open Go.ChangeShapes Go.WideShapes Go.ChangeAt Go.RowKit
attribute [local go_sem ↓] Go.wp_at_zero Go.wp_at_succ
theorem tab_out {n m : Nat} {f : Nat → Nat → Int} {i j : Nat} (h : ¬ (i < n ∧ j < m)) : gat (tab n m f) i j = 0 := by
  unfold gat tab
  by_cases hi : i < n
  · have hj : m ≤ j := Nat.le_of_not_lt fun hj => h ⟨hi, hj⟩
    simp [hi, hj]
  · have : n ≤ i := Nat.le_of_not_lt hi
    have e : ((List.range n).map fun i => (List.range m).map (f i))[i]? = none := List.getElem?_eq_none (by simpa using this)
    simp only [List.getD_eq_getElem?_getD, e]; rfl
theorem tab_bd {n m k : Nat} {f : Nat → Nat → Int} (h : ∀ i j, i < n → j < m → Bd k (f i j)) : BdM k (tab n m f) := fun i j => by
  by_cases hh : i < n ∧ j < m
  · rw [tab_gat hh.1 hh.2]; exact h i j hh.1 hh.2
  · rw [tab_out hh]; exact bd_zero
theorem IsL.box {w W : World} {b : Nat} {a : Option Addr} {c : Nat} {g : Grid} (h : IsL 68 (PRow 0) 0 w (.slice a g.length c) g) (k : Below w.heap.size w W) (hc : W.cell? ⟨b, 0, none⟩ = some (.slice a g.length c)) : BoxM b W g := ⟨a, c, hc, h.keep (prs_prow 0) k⟩
def MOr (ok : Prop) (err : Int) (r : Grid) (w : World) (e : Ending) (w' : World) : Prop :=
  ((ok ∧ ∃ v, e = .returned (.tuple #[v, .int .i64 0]) ∧ IsM w.heap.size w' v r) ∨ (¬ ok ∧ e = .returned (.tuple #[.agg #[.slice none 0 0], .int .i64 err]))) ∧ Below w.heap.size w w'
end Go.Proofs.YtbmaffijncapiaaGreatDoor

/- Determinants, in plain Lean (over Rat): what is linear in each row and nought where two are alike is the determinant times a number; products, what is turned; by any column; the adjugate. -/
namespace Det
section
variable {n : Nat} {f : M → Rat}
end
def tr (m : M) : M := fun i j => m j i
end Det

/- Elimination without fractions, in plain Lean: the determinant, the rank, of what is turned too. -/
namespace Det
def isum (n : Nat) (f : Nat → Int) : Int := match n with
  | 0 => 0
  | n + 1 => isum n f + f n
end Det

/- matrix: Times. -/
namespace Go.Proofs.YtbmaffijncapiaaGreatDoor
open Num
open Go.ChangeShapes Go.WideShapes Go.ChangeAt Go.RowKit
attribute [local go_sem ↓] Go.wp_at_zero Go.wp_at_succ
theorem isum_bd {k : Nat} {f : Nat → Int} (h : ∀ i, Bd k (f i)) : ∀ n, Bd (k + n) (Det.isum n f)
  | 0 => bd_zero
  | n + 1 => (Bd.add (isum_bd h n) ((h n).mono (by omega))).mono (by omega)
set_option maxRecDepth 100000 in
set_option maxHeartbeats 16000000 in
theorem times1_c (bm bo : Nat) (g h : Grid) (n m p k kh : Nat) (w : World) (hg : BoxM bm w g) (hh : BoxM bo w h) (lg : g.length = n) (lh : h.length = m) (rg : Rct g m) (rh : Rct h p) (kg : BdM k g) (kh' : BdM kh h) (hm : m ≤ 1099511627775) (hk : k + kh + m ≤ 17179869184) :
    FnF (fun i j => Det.isum m fun t => gat g i t * gat h t j) n p 139 #[.pointer (some ⟨bm, 0, none⟩), .pointer (some ⟨bo, 0, none⟩)] w := by
  intro w1 i j hi hj hW
  obtain ⟨c1, gb, go, ra, rc, q0, q1, hp⟩ := (hg.keep hW).row (by omega : i < g.length)
  rw [lg] at q0
  rw [rg i (by omega)] at q1
  have hrl := rg i (by omega)
  have HH := Lib.hid (show ∀ V, Below w1.heap.size w1 V → ∀ t, t < m → _ from fun V q t ht => ((hh.keep hW).keep q).elem rh (by omega : t < h.length) hj)
  have HP := Lib.hid hp
  rw [lh] at HH
  clear hg hW hp
  have HK := Lib.hid (And.intro kg kh')
  have HRL := Lib.hid hrl
  have hiI : (i : Int) < (n : Int) := by omega
  have hjI : (j : Int) < (p : Int) := by omega
  clear lg lh rg rh kg kh' hrl hh
  have zq0 := cell_lt q0; have zq1 := cell_lt q1
  obtain ⟨w, hw⟩ : ∃ w, w1 = w := ⟨_, rfl⟩
  subst hw
  have hB := Below.refl w1.heap.size w1
  show Calls Tryz.prog 139 #[.int .i64 (i : Nat), .int .i64 (j : Nat), .pointer (some ⟨bm, 0, none⟩), .pointer (some ⟨bo, 0, none⟩)] w1 _
  dsimp only
  go_enter Tryz.func139, Tryz.ntmps139
  go_wp2
  refine wp_name fun w0 hW0 => ?_
  have hB0 : Below w1.heap.size w1 w0 := by rw [hW0]; repeat (first|exact bzR _ _|exact hB|refine bzD ?_|refine bzN ?_|refine bzS ?_|refine bzA ?_)
  have HR0 := Lib.hid (show w0.cell? ⟨w1.heap.size, 0, none⟩ = some (.bool false) ∧ w0.cell? ⟨w1.heap.size, 1, none⟩ = some (.slice none 0 0) ∧ w0.frozen? ⟨w1.heap.size, 0, none⟩ = false ∧ w0.frozen? ⟨w1.heap.size, 1, none⟩ = false from by rw [hW0]; simp [go_sem])
  have HM0 := Lib.hid (show VarI (w1.heap.size + 1) 0 w0 from by rw [hW0]; exact ⟨typ_fresh (by simp), false, none, 0, 0, by simp [go_sem], by simp [go_sem], by simp [go_sem], by simp [go_sem], isInt_zero _⟩)
  clear hW0
  go_loopw [16] (fun x wr => ∃ t : Nat, t ≤ m ∧ x = .int .i64 t ∧ Below w1.heap.size w1 wr ∧ Hid (wr.cell? ⟨w1.heap.size, 0, none⟩ = some (.bool false) ∧ wr.cell? ⟨w1.heap.size, 1, none⟩ = some (.slice none 0 0) ∧ wr.frozen? ⟨w1.heap.size, 0, none⟩ = false ∧ wr.frozen? ⟨w1.heap.size, 1, none⟩ = false) ∧ Hid (VarI (w1.heap.size + 1) (Det.isum t fun t => gat g i t * gat h t j) wr)) (fun x _ => m - (intOf x).toNat)
  case atStart => exact ⟨0, Nat.zero_le _, rfl, hB0, HR0, HM0⟩
  case round =>
    obtain ⟨t, ht, rfl, hBr, HR, hM⟩ := hrel
    obtain ⟨-, n0, a0, ln0, c0, m0, m1, m0f, m1f, hi0⟩ := hM.out
    obtain ⟨r0, r1, r0f, r1f⟩ := HR.out
    have HI0 := Lib.hid hi0
    have zm := cell_lt m0
    have zr := cell_lt r0
    clear hi0
    by_cases hlt : t < m
    · have hltI : (t : Int) < (m : Int) := by omega
      obtain ⟨a', c', he, -, vr⟩ := (HP.out.keep lims_int hBr).view
      obtain ⟨rfl, -, rfl⟩ := Value.slice.inj he
      obtain ⟨b, off, n2, a2, l2, cc2, rfl, d0, d1, hx⟩ := vr t (by rw [HRL.out]; exact hlt)
      obtain ⟨c3, hb, ho, sb, so, sc, n3, a3, l3, k3, h0, h1, h2, h3, hy⟩ := HH.out _ hBr t hlt
      have HW := Lib.hid (show Det.isum (t + 1) (fun t => gat g i t * gat h t j) = Det.isum t (fun t => gat g i t * gat h t j) + gat g i t * gat h t j from rfl)
      have bs := isum_bd (k := k + kh) (f := fun t => gat g i t * gat h t j) (fun t => Bd.mul (HK.out.1 i t) (HK.out.2 t j)) t
      have bx := HK.out.1 i t
      have by' := HK.out.2 t j
      have bp := (Bd.mul bx by').mono (show k + kh ≤ k + kh + t by omega)
      have hgx : (g.getD i []).getD t 0 = gat g i t := rfl
      rw [hgx] at hx
      obtain ⟨x, hxx⟩ : ∃ x, gat g i t = x := ⟨_, rfl⟩
      obtain ⟨y, hyy⟩ : ∃ y, gat h t j = y := ⟨_, rfl⟩
      rw [hxx] at hx bx bp HW
      rw [hyy] at hy by' bp HW
      obtain ⟨s, hs⟩ : ∃ s, Det.isum t (fun t => gat g i t * gat h t j) = s := ⟨_, rfl⟩
      rw [hs] at HI0 HW hM bs
      have zd := cell_lt d0
      have z0 := cell_lt h0; have z1 := cell_lt h1; have z2 := cell_lt h2
      have HX := Lib.hid (And.intro hx hy)
      have HBP := Lib.hid (And.intro bs (And.intro bp (And.intro bx by')))
      have mc := fun W (q : Below wr.heap.size wr W) => mul_c (.agg #[.bool n2, .slice a2 l2 cc2]) (.agg #[.bool n3, .slice a3 l3 k3]) x y k kh W (HX.out.1.keep q) (HX.out.2.keep q) HBP.out.2.2.1 HBP.out.2.2.2 (by omega) (by omega)
      have ac := fun u W (q : Below wr.heap.size wr W) (hu : IsInt W u (x * y)) => addI_c _ u s (x * y) (k + kh + t) W (HI0.out.keep q) hu HBP.out.1 HBP.out.2.1 (by omega)
      clear hxx hyy hs he vr hx hy bs bp bx by' hgx
      have hBw := Below.refl wr.heap.size wr
      go_wp2
      refine wp_name fun w4 hW4 => ?_
      have hb4 : Below wr.heap.size wr w4 := by rw [hW4]; repeat (first|exact bzR _ _|exact hBw|refine bzD ?_|refine bzN ?_|refine bzS ?_|refine bzA ?_)
      have x0 : w4.cell? ⟨wr.heap.size, 0, none⟩ = some (.bool n2) := by rw [hW4]; simp [go_sem]
      have x1 : w4.cell? ⟨wr.heap.size, 1, none⟩ = some (.slice a2 l2 cc2) := by rw [hW4]; simp [go_sem]
      clear hW4
      have zx := cell_lt x0
      have HS := Lib.hid (show ∀ W, Below w4.heap.size w4 W → W.cell? ⟨wr.heap.size, 0, none⟩ = some (.bool n2) ∧ W.cell? ⟨wr.heap.size, 1, none⟩ = some (.slice a2 l2 cc2) ∧ W.cell? ⟨bo, 0, none⟩ = some (.slice (some ⟨hb, ho, none⟩) m c3) ∧ W.cell? ⟨hb, ho + t, none⟩ = some (.slice (some ⟨sb, so, none⟩) p sc) ∧ W.cell? ⟨sb, so + j * 2, none⟩ = some (.bool n3) ∧ W.cell? ⟨sb, so + j * 2 + 1, none⟩ = some (.slice a3 l3 k3) ∧ W.cell? ⟨w1.heap.size + 1, 0, none⟩ = some (.bool n0) ∧ W.cell? ⟨w1.heap.size + 1, 1, none⟩ = some (.slice a0 ln0 c0) ∧ W.frozen? ⟨w1.heap.size + 1, 0, none⟩ = false ∧ W.frozen? ⟨w1.heap.size + 1, 1, none⟩ = false from fun W q => ⟨bkeep q x0, bkeep q x1, bkeep (bthen hb4 q) h0, bkeep (bthen hb4 q) h1, bkeep (bthen hb4 q) h2, bkeep (bthen hb4 q) h3, bkeep (bthen hb4 q) m0, bkeep (bthen hb4 q) m1, bkeepf (bthen hb4 q) m0 m0f, bkeepf (bthen hb4 q) m1 m1f⟩)
      clear h0 h1 h2 h3 m0 m1 m0f m1f x0 x1
      obtain ⟨x0, x1, h0, h1, h2, h3, m0, m1, m0f, m1f⟩ := HS.out w4 (Below.refl _ _)
      have hBw := Below.refl w4.heap.size w4
      have hz4 := hb4.size
      go_region_law (go_simp; go_wp2_with (first
        | (go_at_call 51; refine (mc _ ?_).mono ?_; (refine bthen hb4 ?_; (repeat (first|exact bzR _ _|exact hBw|refine bzD ?_|refine bzN ?_|refine bzS ?_|refine bzA ?_))); rintro e w5 ⟨⟨v5, rfl, hv5⟩, hb5⟩; (have hBd : Below w4.heap.size w4 w5 := bthen (by repeat (first|exact bzR _ _|exact hBw|refine bzD ?_|refine bzN ?_|refine bzS ?_|refine bzA ?_)) hb5; clear hBw; have hBw := hBd; clear hBd); obtain ⟨x0, x1, h0, h1, h2, h3, m0, m1, m0f, m1f⟩ := HS.out w5 hBw; have zm5 := cell_lt m0; have HV5 := Lib.hid hv5; obtain ⟨n5, a5, c5, l5, rfl, -⟩ := hv5; unfold iv at *)
        | (go_at_call 37; refine (ac _ _ ?_ ?_).mono ?_; (refine bthen hb4 ?_; (repeat (first|exact bzR _ _|exact hBw|refine bzD ?_|refine bzN ?_|refine bzS ?_|refine bzA ?_))); (refine HV5.out.keep ?_; have hBz := Below.refl w5.heap.size w5; (repeat (first|exact bzR _ _|exact hBz|refine bzD ?_|refine bzN ?_|refine bzS ?_|refine bzA ?_))); rintro e w6 ⟨⟨v6, rfl, hv6⟩, hb6⟩; (have hBd : Below w4.heap.size w4 w6 := bthen (by repeat (first|exact bzR _ _|exact hBw|refine bzD ?_|refine bzN ?_|refine bzS ?_|refine bzA ?_)) hb6; clear hBw; have hBw := hBd; clear hBd); obtain ⟨x0, x1, h0, h1, h2, h3, m0, m1, m0f, m1f⟩ := HS.out w6 hBw; have zm6 := cell_lt m0; have HV6 := Lib.hid hv6; obtain ⟨n6, a6, c6, l6, rfl, -⟩ := hv6; unfold iv at *)
        | fail))
      all_goals
        have hBw' := bthen hb4 hBw
        have HV2 := Lib.hid ((hM.out.keep hBw').put HV6.out)
        have hB2 := bthen hBr hBw'
        have r0' := bkeep hBw' r0
        have r1' := bkeep hBw' r1
        have r0f' := bkeepf hBw' r0 r0f
        have r1f' := bkeepf hBw' r1 r1f
        clear mc ac HS
        go_wp2
        refine ⟨⟨t + 1, by omega, by go_num, bset (bset hB2 (by show w1.heap.size ≤ w1.heap.size + 1; omega) _) (by show w1.heap.size ≤ w1.heap.size + 1; omega) _, Lib.hid ⟨cell_far (cell_far r0' (addr_ne (by omega)) _) (addr_ne (by omega)) _, cell_far (cell_far r1' (addr_ne (by omega)) _) (addr_ne (by omega)) _, ?_, ?_⟩, Lib.hid (by rw [HW.out]; exact HV2.out)⟩, by simp [intOf]; omega⟩
        · rw [World.frozen?_setCell, World.frozen?_setCell]; exact r0f'
        · rw [World.frozen?_setCell, World.frozen?_setCell]; exact r1f'
    · obtain rfl : t = m := by omega
      have hp := Lib.hid (HI0.out.put2 r0 r1)
      go_wp2
      refine bodyPost_ret (v := .agg #[.bool n0, .slice a0 ln0 c0]) (by simp [results, Tryz.results139, go_sem, *]) rfl ⟨⟨_, rfl, hp.out _ _⟩, ?_⟩
      repeat (first|exact bzR _ _|exact hBr|refine bzD ?_|refine bzN ?_|refine bzS ?_|refine bzA ?_)
end Go.Proofs.YtbmaffijncapiaaGreatDoor

/- matrix: Times, square, New. -/
namespace Go.Proofs.YtbmaffijncapiaaGreatDoor
open Num
open Go.ChangeShapes Go.WideShapes Go.ChangeAt Go.RowKit
attribute [local go_sem ↓] Go.wp_at_zero Go.wp_at_succ
def timesG (g h : Grid) : Grid := tab g.length (cols h) fun i j => Det.isum (cols g) fun t => gat g i t * gat h t j
set_option maxRecDepth 100000 in
set_option maxHeartbeats 4000000 in
theorem timesM_c (v u : Value) (g h : Grid) (k kh : Nat) (w : World) (hv : IsM 0 w v g) (hu : IsM 0 w u h) (rg : Rct g (cols g)) (rh : Rct h (cols h)) (kg : BdM k g) (kh' : BdM kh h) (hk : k + kh + cols g ≤ 17179869184) (lg : g.length ≤ 1099511627775) (lc : cols h ≤ 1099511627775) (lcg : cols g ≤ 1099511627775) :
    Calls Tryz.prog 50 #[v, u] w (MOr (cols g = h.length ∧ 0 < cols g) 5 (timesG g h) w) := by
  obtain ⟨ag, cg, rfl, lv⟩ := hv
  obtain ⟨ah, ch, rfl, lu⟩ := hu
  have rc1 := fun V => rowsM_c ag g.length cg V
  have rc2 := fun V => rowsM_c ah h.length ch V
  have cc1 := fun V (q : Below w.heap.size w V) => colsM_c ag cg g V (lv.keep (prs_prow 0) q)
  have cc2 := fun V (q : Below w.heap.size w V) => colsM_c ah ch h V (lu.keep (prs_prow 0) q)
  have fc := fun V (q : Below w.heap.size w V) (e1 : V.cell? ⟨w.heap.size, 0, none⟩ = some (.slice ag g.length cg)) (e2 : V.cell? ⟨w.heap.size + 1, 0, none⟩ = some (.slice ah h.length ch)) (hn : cols g = h.length) =>
    filled_c g.length (cols h) (fun i j => Det.isum (cols g) fun t => gat g i t * gat h t j) 139 #[.pointer (some ⟨w.heap.size, 0, none⟩), .pointer (some ⟨w.heap.size + 1, 0, none⟩)] V (times1_c _ _ g h g.length (cols g) (cols h) k kh V (lv.box q e1) (lu.box q e2) rfl hn.symm rg rh kg kh' lcg hk) (ens Tryz.func139 (by kernel_rfl) rfl) (by omega) lc
  have FC := Lib.hid fc
  clear fc lv lu rg rh kg kh' lg lc hk lcg
  unfold timesG
  obtain ⟨FF, hFF⟩ : ∃ FF, (fun i j => Det.isum (cols g) fun t => gat g i t * gat h t j) = FF := ⟨_, rfl⟩
  rw [hFF] at FC ⊢
  clear hFF
  obtain ⟨N, hN⟩ : ∃ N, g.length = N := ⟨_, rfl⟩
  obtain ⟨N', hN'⟩ : ∃ N, h.length = N := ⟨_, rfl⟩
  obtain ⟨C, hC⟩ : ∃ N, cols g = N := ⟨_, rfl⟩
  obtain ⟨C', hC'⟩ : ∃ N, cols h = N := ⟨_, rfl⟩
  rw [hN, hN', hC, hC'] at FC
  rw [hN] at rc1 cc1
  rw [hN'] at rc2 cc2
  rw [hC] at cc1
  rw [hC'] at cc2
  rw [hN, hN', hC, hC']
  clear hN hN' hC hC'
  have RC1 := Lib.hid rc1
  have RC2 := Lib.hid rc2
  have CC1 := Lib.hid cc1
  have CC2 := Lib.hid cc2
  clear rc1 rc2 cc1 cc2
  have hB := Below.refl w.heap.size w
  by_cases h1 : C = N'
  · by_cases h2 : 0 < C
    · have FC2 := Lib.hid (fun V q e1 e2 => FC.out V q e1 e2 h1)
      subst h1
      have HOK := Lib.hid (show C = C ∧ 0 < C from ⟨rfl, h2⟩)
      have hnI : ((C : Int) != (C : Int)) = false := by simp
      have hcI : ((C : Int) == 0) = false := by simp; omega
      clear FC h2
      go_enter Tryz.func50, Tryz.ntmps50
      go_wp2
      refine wp_name fun w0 hW0 => ?_
      have m0 : w0.cell? ⟨w.heap.size, 0, none⟩ = some (.slice ag N cg) := by rw [hW0]; simp [go_sem]
      have zm0 := cell_lt m0
      have o0 : w0.cell? ⟨w.heap.size + 1, 0, none⟩ = some (.slice ah C ch) := by rw [hW0]; simp [go_sem]
      have zo0 := cell_lt o0
      have r0f : w0.frozen? ⟨w.heap.size + 1 + 1, 0, none⟩ = false := by rw [hW0]; simp [go_sem]
      have r0 : w0.cell? ⟨w.heap.size + 1 + 1, 0, none⟩ = some (.slice none 0 0) := by rw [hW0]; simp [go_sem]
      have zr0 := cell_lt r0
      have hB : Below w.heap.size w w0 := by rw [hW0]; repeat (first|exact bzR _ _|exact hB|refine bzD ?_|refine bzN ?_|refine bzS ?_|refine bzA ?_)
      have HT0 : Hid (typOf w0 (w.heap.size + 1 + 1) = some 47) := Lib.hid (by rw [hW0]; exact typ_fresh (by simp))
      have hz : w.heap.size ≤ w0.heap.size := hB.size
      clear hW0
      refine wp_region_grow (w := w0) (by kernel_rfl) (by kernel_rfl) ?_
      have m0g : ∀ gs, (grow w0 gs).cell? ⟨w.heap.size, 0, none⟩ = some (.slice ag N cg) := fun gs => bkeep gs.below m0
      have o0g : ∀ gs, (grow w0 gs).cell? ⟨w.heap.size + 1, 0, none⟩ = some (.slice ah C ch) := fun gs => bkeep gs.below o0
      have r0g : ∀ gs, (grow w0 gs).cell? ⟨w.heap.size + 1 + 1, 0, none⟩ = some (.slice none 0 0) := fun gs => bkeep gs.below r0
      repeat (go_big_quiet_step ((first | (go_at_call 27; with_reducible exact grow_of (CC1.out _ (hB.trans ((Grows.below _).mono hz)))) | (go_at_call 24; with_reducible exact grow_of (RC2.out _)) | fail)))
      refine wpQuiet_nil ?_
      intro w1 hb1
      clear m0g
      clear o0g
      clear r0g
      have m0 := bkeep hb1 m0
      have o0 := bkeep hb1 o0
      have r0f := bkeepf hb1 r0 r0f
      have r0 := bkeep hb1 r0
      have hB := bthen hB hb1
      have hz := hB.size
      have HT1 := Lib.hid (typ_keep HT0.out hb1)
      clear HT0
      go_wp2
      refine wp_region_grow_tail (w := w1) 5 (by kernel_rfl) (by kernel_rfl) ?_
      simp only [List.take_succ_cons, List.take_zero, List.drop_succ_cons, List.drop_zero]
      have m0g : ∀ gs, (grow w1 gs).cell? ⟨w.heap.size, 0, none⟩ = some (.slice ag N cg) := fun gs => bkeep gs.below m0
      have o0g : ∀ gs, (grow w1 gs).cell? ⟨w.heap.size + 1, 0, none⟩ = some (.slice ah C ch) := fun gs => bkeep gs.below o0
      have r0g : ∀ gs, (grow w1 gs).cell? ⟨w.heap.size + 1 + 1, 0, none⟩ = some (.slice none 0 0) := fun gs => bkeep gs.below r0
      repeat (go_big_quiet_step ((first | (go_at_call 24; with_reducible exact grow_of (RC1.out _)) | (go_at_call 27; with_reducible exact grow_of (CC2.out _ (hB.trans ((Grows.below _).mono hz)))) | fail)))
      refine wpQuiet_nil ?_
      intro w2 hb2
      clear m0g
      clear o0g
      clear r0g
      have m0 := bkeep hb2 m0
      have o0 := bkeep hb2 o0
      have r0f := bkeepf hb2 r0 r0f
      have r0 := bkeep hb2 r0
      have hB := bthen hB hb2
      have hz := hB.size
      have HT2 := Lib.hid (typ_keep HT1.out hb2)
      clear HT1
      go_wp2_with fail
      refine (FC2.out _ hB m0 o0).mono ?_
      rintro e w3 ⟨⟨v3, rfl, hv3⟩, hb3⟩
      have HT3 := typ_keep HT2.out hb3
      have HV := Lib.hid (hv3.rebase hz)
      obtain ⟨a3, c3, rfl⟩ := hv3.lit
      have m0 := bkeep hb3 m0
      have o0 := bkeep hb3 o0
      have r0f := bkeepf hb3 r0 r0f
      have r0 := bkeep hb3 r0
      have hB := bthen hB hb3
      have hz := hB.size
      rw [tab_len] at HV ⊢
      clear FC2 hv3 m0 o0
      go_wp2
      refine bodyPost_ret (v := .tuple #[.agg #[.slice a3 N c3], .int .i64 0]) (by simp [results, Tryz.results50, go_sem, *]) rfl ⟨.inl ⟨by have := HOK.out; omega, _, rfl, HV.out.setM HT3 _⟩, ?_⟩
      repeat (first|exact bzR _ _|exact hB|refine bzD ?_|refine bzN ?_|refine bzS ?_|refine bzA ?_)
    · have hnI : ((C : Int) != (N' : Int)) = false := by simp [h1]
      have hcI : ((C : Int) == 0) = true := by simp; omega
      have HNO := Lib.hid (show ¬ (C = N' ∧ 0 < C) from fun h => h2 h.2)
      clear FC h1 h2
      go_enter Tryz.func50, Tryz.ntmps50
      go_wp2
      refine wp_name fun w0 hW0 => ?_
      have m0 : w0.cell? ⟨w.heap.size, 0, none⟩ = some (.slice ag N cg) := by rw [hW0]; simp [go_sem]
      have zm0 := cell_lt m0
      have o0 : w0.cell? ⟨w.heap.size + 1, 0, none⟩ = some (.slice ah N' ch) := by rw [hW0]; simp [go_sem]
      have zo0 := cell_lt o0
      have r0f : w0.frozen? ⟨w.heap.size + 1 + 1, 0, none⟩ = false := by rw [hW0]; simp [go_sem]
      have r0 : w0.cell? ⟨w.heap.size + 1 + 1, 0, none⟩ = some (.slice none 0 0) := by rw [hW0]; simp [go_sem]
      have zr0 := cell_lt r0
      have hB : Below w.heap.size w w0 := by rw [hW0]; repeat (first|exact bzR _ _|exact hB|refine bzD ?_|refine bzN ?_|refine bzS ?_|refine bzA ?_)
      have hz : w.heap.size ≤ w0.heap.size := hB.size
      clear hW0
      refine wp_region_grow (w := w0) (by kernel_rfl) (by kernel_rfl) ?_
      have m0g : ∀ gs, (grow w0 gs).cell? ⟨w.heap.size, 0, none⟩ = some (.slice ag N cg) := fun gs => bkeep gs.below m0
      have o0g : ∀ gs, (grow w0 gs).cell? ⟨w.heap.size + 1, 0, none⟩ = some (.slice ah N' ch) := fun gs => bkeep gs.below o0
      have r0g : ∀ gs, (grow w0 gs).cell? ⟨w.heap.size + 1 + 1, 0, none⟩ = some (.slice none 0 0) := fun gs => bkeep gs.below r0
      repeat (go_big_quiet_step ((first | (go_at_call 27; with_reducible exact grow_of (CC1.out _ (hB.trans ((Grows.below _).mono hz)))) | (go_at_call 24; with_reducible exact grow_of (RC2.out _)) | fail)))
      refine wpQuiet_nil ?_
      intro w1 hb1
      clear m0g
      clear o0g
      clear r0g
      have m0 := bkeep hb1 m0
      have o0 := bkeep hb1 o0
      have r0f := bkeepf hb1 r0 r0f
      have r0 := bkeep hb1 r0
      have hB := bthen hB hb1
      have hz := hB.size
      go_wp2
      refine bodyPost_ret (v := .tuple #[.agg #[.slice none 0 0], .int .i64 5]) (by simp [results, Tryz.results50, go_sem, *]) rfl ⟨.inr ⟨HNO.out, rfl⟩, ?_⟩
      repeat (first|exact bzR _ _|exact hB|refine bzD ?_|refine bzN ?_|refine bzS ?_|refine bzA ?_)
  · have hnI : ((C : Int) != (N' : Int)) = true := by simp; omega
    have HNO := Lib.hid (show ¬ (C = N' ∧ 0 < C) from fun h => h1 h.1)
    clear FC h1
    go_enter Tryz.func50, Tryz.ntmps50
    go_wp2
    refine wp_name fun w0 hW0 => ?_
    have m0 : w0.cell? ⟨w.heap.size, 0, none⟩ = some (.slice ag N cg) := by rw [hW0]; simp [go_sem]
    have zm0 := cell_lt m0
    have o0 : w0.cell? ⟨w.heap.size + 1, 0, none⟩ = some (.slice ah N' ch) := by rw [hW0]; simp [go_sem]
    have zo0 := cell_lt o0
    have r0f : w0.frozen? ⟨w.heap.size + 1 + 1, 0, none⟩ = false := by rw [hW0]; simp [go_sem]
    have r0 : w0.cell? ⟨w.heap.size + 1 + 1, 0, none⟩ = some (.slice none 0 0) := by rw [hW0]; simp [go_sem]
    have zr0 := cell_lt r0
    have hB : Below w.heap.size w w0 := by rw [hW0]; repeat (first|exact bzR _ _|exact hB|refine bzD ?_|refine bzN ?_|refine bzS ?_|refine bzA ?_)
    have hz : w.heap.size ≤ w0.heap.size := hB.size
    clear hW0
    refine wp_region_grow (w := w0) (by kernel_rfl) (by kernel_rfl) ?_
    have m0g : ∀ gs, (grow w0 gs).cell? ⟨w.heap.size, 0, none⟩ = some (.slice ag N cg) := fun gs => bkeep gs.below m0
    have o0g : ∀ gs, (grow w0 gs).cell? ⟨w.heap.size + 1, 0, none⟩ = some (.slice ah N' ch) := fun gs => bkeep gs.below o0
    have r0g : ∀ gs, (grow w0 gs).cell? ⟨w.heap.size + 1 + 1, 0, none⟩ = some (.slice none 0 0) := fun gs => bkeep gs.below r0
    repeat (go_big_quiet_step ((first | (go_at_call 27; with_reducible exact grow_of (CC1.out _ (hB.trans ((Grows.below _).mono hz)))) | (go_at_call 24; with_reducible exact grow_of (RC2.out _)) | fail)))
    refine wpQuiet_nil ?_
    intro w1 hb1
    clear m0g
    clear o0g
    clear r0g
    have m0 := bkeep hb1 m0
    have o0 := bkeep hb1 o0
    have r0f := bkeepf hb1 r0 r0f
    have r0 := bkeep hb1 r0
    have hB := bthen hB hb1
    have hz := hB.size
    go_wp2
    refine bodyPost_ret (v := .tuple #[.agg #[.slice none 0 0], .int .i64 5]) (by simp [results, Tryz.results50, go_sem, *]) rfl ⟨.inr ⟨HNO.out, rfl⟩, ?_⟩
    repeat (first|exact bzR _ _|exact hB|refine bzD ?_|refine bzN ?_|refine bzS ?_|refine bzA ?_)
end Go.Proofs.YtbmaffijncapiaaGreatDoor

/- matrices, plain: the laws of sums and products. -/
namespace Go.Proofs.YtbmaffijncapiaaGreatDoor
open Num
theorem times_len (g h : Grid) : (timesG g h).length = g.length := tab_len _ _ _
theorem times_cols {g h : Grid} (hg : 0 < g.length) : cols (timesG g h) = cols h := tab_cols _ hg
theorem times_gat {g h : Grid} {i j : Nat} (hi : i < g.length) (hj : j < cols h) : gat (timesG g h) i j = Det.isum (cols g) fun t => gat g i t * gat h t j := tab_gat hi hj
theorem times_rct (g h : Grid) : Rct (timesG g h) (cols h) := tab_rect _ _ _
end Go.Proofs.YtbmaffijncapiaaGreatDoor

/- matrices that New makes: what is done to them, in one form. -/
namespace Go.Proofs.YtbmaffijncapiaaGreatDoor
open Num
open Go.ChangeShapes Go.WideShapes Go.ChangeAt Go.RowKit
theorem Mt.times {k m n : Nat} {g h : Grid} {v u : Value} {w : World} (h1 : Mt k g v w) (h2 : Mt m h u w) (e : cols g = h.length) (hk : k + m + 16 ≤ 17179869184) (hn : g.length = n) :
    Calls Tryz.prog 50 #[v, u] w fun e w' => (∃ a c, e = .returned (.tuple #[.agg #[.slice a n c], .int .i64 0]) ∧ Mt (k + m + 16) (timesG g h) (.agg #[.slice a n c]) w') ∧ Below w.heap.size w w' := by
  have s1 := h1.sz
  have s2 := h2.sz
  refine (timesM_c v u g h k m w h1.m h2.m h1.rc h2.rc h1.bd h2.bd (by omega) (by omega) (by omega) (by omega)).mono ?_
  rintro ee w' ⟨ho, hb⟩
  refine ⟨?_, hb⟩
  rcases ho with ⟨-, x, rfl, hx⟩ | ⟨no, -⟩
  · have hx := hx.rebase (Nat.zero_le _)
    obtain ⟨a, c, rfl⟩ := hx.lit
    rw [times_len, hn] at hx ⊢
    exact ⟨a, c, rfl, hx, by rw [times_cols (by omega)]; exact times_rct g h, ⟨by rw [times_len]; omega, by rw [times_cols (by omega)]; omega, by rw [times_len]; omega, by rw [times_cols (by omega)]; omega⟩, (show BdM (k + m + cols g) (timesG g h) from tab_bd fun i j _ _ => isum_bd (fun t => (h1.bd i t).mul (h2.bd t j)) _).mono (by omega)⟩
  · exact absurd ⟨e, by omega⟩ no
end Go.Proofs.YtbmaffijncapiaaGreatDoor

