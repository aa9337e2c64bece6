/- Texts of this seat, laid together: MxT, MwA, MwB, MwC, MwJ, MwK, MwG, MwS, MwW, MwX, MwY, MiA. Each opens with its own remark, which says what it proves, and under which conditions. -/
import Derived.Test.YtbmaffijncapiaaGreatDoorL16
import Derived.Test.YtbmaffijncapiaaGreatDoorL15
import Derived.Test.YtbmaffijncapiaaGreatDoorL14
import Derived.Test.YtbmaffijncapiaaGreatDoorL08
import Derived.Deep.DeepCutAuto
import Derived.BigQuiet
set_option linter.unusedVariables false
set_option linter.unusedSimpArgs false
/- row: Text; matrix: Text. -/
namespace Go.Proofs.YtbmaffijncapiaaGreatDoor
open Num
open Go.ChangeShapes Go.WideShapes Go.ChangeAt Go.RowKit
set_option linter.unusedVariables false
set_option linter.unusedSimpArgs false
attribute [local go_sem ↓] Go.wp_at_zero Go.wp_at_succ
def brTxt (L : List (List UInt8)) : List UInt8 := 91 :: (Lib.join L [32] ++ [93])
def rowTxt (l : List Int) : List UInt8 := brTxt (l.map intTxt)
def matTxt (g : Grid) : List UInt8 := brTxt (g.map rowTxt)
theorem brTxt_arr (L : List (List UInt8)) : (⟨#[91]⟩ : ByteArray) ++ ⟨(Lib.join L [32]).toArray⟩ ++ ⟨#[93]⟩ = ⟨(brTxt L).toArray⟩ := by
  apply ByteArray.ext
  simp [brTxt, ByteArray.data_append]
set_option maxRecDepth 100000 in
set_option maxHeartbeats 4000000 in
theorem rowText_c (v : Value) (l : List Int) (k : Nat) (w : World) (hv : PRow 0 w v l) (hl : l.length ≤ 1099511627775) (hb : ∀ j, Bd k (l.getD j 0)) (hk : k ≤ 2147483648) (hlen : (Lib.join (l.map intTxt) [32]).length ≤ 140737488355328) :
    Calls Tryz.prog 187 #[v] w fun e w' => e = .returned (.string ⟨(rowTxt l).toArray⟩) ∧ Below w.heap.size w w' := by
  have HV := Lib.hid hv
  have HBD := Lib.hid hb
  have HLEN := Lib.hid hlen
  obtain ⟨va, vc, rfl, -⟩ := hv
  clear hb hlen
  have hB := Below.refl w.heap.size w
  go_enter Tryz.func187, Tryz.ntmps187
  go_wp2
  go_loopw [3, 8] (fun v x wr => ∃ j : Nat, j ≤ l.length ∧ x = .int .i64 j ∧ Hid (OwnL 9 PTx w wr v ((l.take j).map intTxt))) (fun _ x _ => l.length - (intOf x).toNat)
  case atStart => exact ⟨0, Nat.zero_le _, rfl, Lib.hid (OwnL.nil _ _ hB)⟩
  case round =>
    obtain ⟨j, hj, rfl, hO⟩ := hrel
    have hBr := hO.out.bel
    obtain ⟨oa, oc, hvv⟩ := hO.out.ex
    rw [List.length_map, List.length_take, Nat.min_eq_left hj] at hvv
    subst hvv
    by_cases hlt : j < l.length
    · have hltI : (j : Int) < (l.length : Int) := by omega
      obtain ⟨a', c', he, -, vr⟩ := (HV.out.keep lims_int hBr).view
      obtain ⟨rfl, -, rfl⟩ := Value.slice.inj he
      obtain ⟨b, off, n2, a2, l2, cc2, rfl, d0, d1, hi⟩ := vr j hlt
      have bj := HBD.out j
      have HTK := Lib.hid (take_getD 0 hlt)
      obtain ⟨x, hx⟩ : ∃ x, l.getD j 0 = x := ⟨_, rfl⟩
      rw [hx] at hi bj HTK
      have tc := fun W (h : Below wr.heap.size wr W) => intText_c _ x k W (hi.keep h) bj hk
      have zd := cell_lt d0
      have hBw := Below.refl wr.heap.size wr
      clear hx he vr hi bj
      go_wp2_with fail
      refine (tc _ (by repeat (first|exact bzR _ _|exact hBw|refine bzD ?_|refine bzN ?_|refine bzS ?_|refine bzA ?_))).mono ?_
      rintro e w2 ⟨rfl, hb2⟩
      have hb2' : Below wr.heap.size wr w2 := bthen (by repeat (first|exact bzR _ _|exact hBw|refine bzD ?_|refine bzN ?_|refine bzS ?_|refine bzA ?_)) hb2
      have HO2 := Lib.hid (hO.out.below prs_ptx hb2')
      clear tc hO d0 d1
      go_wp2_with (at_builtin; refine appL elStr prs_ptx (fun h => h) (by rfl) (by rfl) (HO2.out.below prs_ptx (bal (Below.refl _ _) _)) (show PTx _ (.string ⟨(intTxt x).toArray⟩) (intTxt x) from rfl) (by rfl) (by rfl) (cell_new rfl rfl) (by rw [List.length_map, List.length_take]; omega) (by rw [List.length_map, List.length_take]; unfold maxLen; omega) ?_)
      intro v' w8 hO8 hk8
      have HO8 := Lib.hid (show OwnL 9 PTx w w8 v' ((l.take (j + 1)).map intTxt) from by rw [HTK.out, List.map_append, List.map_take]; exact hO8)
      clear hO8 hk8
      go_wp2
      exact ⟨⟨j + 1, by omega, by go_num, HO8⟩, by simp [intOf]; omega⟩
    · obtain rfl : j = l.length := by omega
      have hltI : ¬ (l.length : Int) < (l.length : Int) := by omega
      have HEQ := Lib.hid (brTxt_arr (l.map intTxt))
      have jc := fun W (h : Below wr.heap.size wr W) => join_c (.slice oa l.length oc) (l.map intTxt) w.heap.size W ((by have h2 := hO.out.isL; rw [List.take_length] at h2; exact h2 : IsL 9 PTx w.heap.size wr _ _).keep prs_ptx h) (by rw [List.length_map]; omega) HLEN.out
      have hJ := HLEN.out
      obtain ⟨J, hJE⟩ : ∃ J, Lib.join (l.map intTxt) [32] = J := ⟨_, rfl⟩
      rw [hJE] at jc HEQ hJ
      clear hJE hO
      have hJ1 : ¬ 9223372036854775807 < 1 + J.length := by omega
      have hJ2 : ¬ 9223372036854775807 < 1 + J.length + 1 := by omega
      have hBw := Below.refl wr.heap.size wr
      go_wp2_with fail
      refine (jc _ (by repeat (first|exact bzR _ _|exact hBw|refine bzD ?_|refine bzN ?_|refine bzS ?_|refine bzA ?_))).mono ?_
      rintro e w2 ⟨rfl, hb2⟩
      have hb3 := bthen hBr (bthen (by repeat (first|exact bzR _ _|exact hBw|refine bzD ?_|refine bzN ?_|refine bzS ?_|refine bzA ?_)) hb2)
      clear jc
      go_wp2
      go_ret
      exact ⟨congrArg (fun s => Ending.returned (.string s)) HEQ.out, by repeat (first|exact bzR _ _|exact hb3|refine bzD ?_|refine bzN ?_|refine bzS ?_|refine bzA ?_)⟩
set_option maxRecDepth 100000 in
set_option maxHeartbeats 4000000 in
theorem matText_c (v : Value) (g : Grid) (k : Nat) (w : World) (hv : IsM 0 w v g) (hg : g.length ≤ 1099511627775) (hl : ∀ i, i < g.length → (g.getD i []).length ≤ 1099511627775) (hb : BdM k g) (hk : k ≤ 2147483648) (h1 : ∀ i, i < g.length → (Lib.join ((g.getD i []).map intTxt) [32]).length ≤ 140737488355328) (h2 : (Lib.join (g.map rowTxt) [32]).length ≤ 140737488355328) :
    Calls Tryz.prog 93 #[v] w fun e w' => e = .returned (.string ⟨(matTxt g).toArray⟩) ∧ Below w.heap.size w w' := by
  obtain ⟨ga, gc, rfl, hv⟩ := hv
  have HV := Lib.hid hv
  have HBD := Lib.hid hb
  have HLEN := Lib.hid (And.intro hl (And.intro h1 h2))
  clear hb hl h1 h2 hv
  have hB := Below.refl w.heap.size w
  go_enter Tryz.func93, Tryz.ntmps93
  go_wp2
  refine wp_name fun w1 hW1 => ?_
  have hB1 : Below w.heap.size w w1 := by rw [hW1]; repeat (first|exact bzR _ _|exact hB|refine bzD ?_|refine bzN ?_|refine bzS ?_|refine bzA ?_)
  clear hW1
  go_loopw [3, 9] (fun v x wr => ∃ j : Nat, j ≤ g.length ∧ x = .int .i64 j ∧ Hid (OwnL 9 PTx w wr v ((g.take j).map rowTxt))) (fun _ x _ => g.length - (intOf x).toNat)
  case atStart => exact ⟨0, Nat.zero_le _, rfl, Lib.hid (OwnL.nil _ _ hB1)⟩
  case round =>
    obtain ⟨j, hj, rfl, hO⟩ := hrel
    have hBr := hO.out.bel
    obtain ⟨oa, oc, hvv⟩ := hO.out.ex
    rw [List.length_map, List.length_take, Nat.min_eq_left hj] at hvv
    subst hvv
    by_cases hlt : j < g.length
    · have hltI : (j : Int) < (g.length : Int) := by omega
      obtain ⟨c', gb, go, ra, rc, e2, hu, hp⟩ := (HV.out.keep (prs_prow 0) hBr).row hlt
      obtain ⟨rfl, -, rfl⟩ := Value.slice.inj e2
      have bj := HBD.out j
      have HTK := Lib.hid (take_getD [] hlt)
      have hlj := HLEN.out.1 j hlt
      have h1j := HLEN.out.2.1 j hlt
      obtain ⟨x, hx⟩ : ∃ x, g.getD j [] = x := ⟨_, rfl⟩
      rw [hx] at hu hp HTK hlj h1j
      have bj2 : ∀ i, Bd k (x.getD i 0) := fun i => by rw [← hx]; exact bj i
      have tc := fun W (h : Below wr.heap.size wr W) => rowText_c _ x k W (hp.keep lims_int h) hlj bj2 hk h1j
      have zd := cell_lt hu
      have hBw := Below.refl wr.heap.size wr
      clear hx e2 hp bj bj2 hlj h1j
      go_wp2_with fail
      refine (tc _ (by repeat (first|exact bzR _ _|exact hBw|refine bzD ?_|refine bzN ?_|refine bzS ?_|refine bzA ?_))).mono ?_
      rintro e w2 ⟨rfl, hb2⟩
      have hb2' : Below wr.heap.size wr w2 := bthen (by repeat (first|exact bzR _ _|exact hBw|refine bzD ?_|refine bzN ?_|refine bzS ?_|refine bzA ?_)) hb2
      have HO2 := Lib.hid (hO.out.below prs_ptx hb2')
      clear tc hO hu
      go_wp2_with (at_builtin; refine appL elStr prs_ptx (fun h => h) (by rfl) (by rfl) (HO2.out.below prs_ptx (bal (Below.refl _ _) _)) (show PTx _ (.string ⟨(rowTxt x).toArray⟩) (rowTxt x) from rfl) (by rfl) (by rfl) (cell_new rfl rfl) (by rw [List.length_map, List.length_take]; omega) (by rw [List.length_map, List.length_take]; unfold maxLen; omega) ?_)
      intro v' w8 hO8 hk8
      have HO8 := Lib.hid (show OwnL 9 PTx w w8 v' ((g.take (j + 1)).map rowTxt) from by rw [HTK.out, List.map_append, List.map_take]; exact hO8)
      clear hO8 hk8
      go_wp2
      exact ⟨⟨j + 1, by omega, by go_num, HO8⟩, by simp [intOf]; omega⟩
    · obtain rfl : j = g.length := by omega
      have hltI : ¬ (g.length : Int) < (g.length : Int) := by omega
      have HEQ := Lib.hid (brTxt_arr (g.map rowTxt))
      have jc := fun W (h : Below wr.heap.size wr W) => join_c (.slice oa g.length oc) (g.map rowTxt) w.heap.size W ((by have h2 := hO.out.isL; rw [List.take_length] at h2; exact h2 : IsL 9 PTx w.heap.size wr _ _).keep prs_ptx h) (by rw [List.length_map]; omega) HLEN.out.2.2
      have hJ := HLEN.out.2.2
      obtain ⟨J, hJE⟩ : ∃ J, Lib.join (g.map rowTxt) [32] = J := ⟨_, rfl⟩
      rw [hJE] at jc HEQ hJ
      clear hJE hO
      have hJ1 : ¬ 9223372036854775807 < 1 + J.length := by omega
      have hJ2 : ¬ 9223372036854775807 < 1 + J.length + 1 := by omega
      have hBw := Below.refl wr.heap.size wr
      go_wp2_with fail
      refine (jc _ (by repeat (first|exact bzR _ _|exact hBw|refine bzD ?_|refine bzN ?_|refine bzS ?_|refine bzA ?_))).mono ?_
      rintro e w2 ⟨rfl, hb2⟩
      have hb3 := bthen hBr (bthen (by repeat (first|exact bzR _ _|exact hBw|refine bzD ?_|refine bzN ?_|refine bzS ?_|refine bzA ?_)) hb2)
      clear jc
      go_wp2
      go_ret
      exact ⟨congrArg (fun s => Ending.returned (.string s)) HEQ.out, by repeat (first|exact bzR _ _|exact hb3|refine bzD ?_|refine bzN ?_|refine bzS ?_|refine bzA ?_)⟩
end Go.Proofs.YtbmaffijncapiaaGreatDoor

/- matrix's laws: list; Pivots as a value; works answers true. -/
namespace Go.Proofs.YtbmaffijncapiaaGreatDoor
open Num
open Go.ChangeShapes Go.WideShapes Go.ChangeAt Go.RowKit
set_option linter.unusedVariables false
set_option linter.unusedSimpArgs false
attribute [local go_sem ↓] Go.wp_at_zero Go.wp_at_succ
end Go.Proofs.YtbmaffijncapiaaGreatDoor

/- matrix's laws: works answers true. -/
namespace Go.Proofs.YtbmaffijncapiaaGreatDoor
open Num
open Go.ChangeShapes Go.WideShapes Go.ChangeAt Go.RowKit
set_option linter.unusedVariables false
set_option linter.unusedSimpArgs false
attribute [local go_sem ↓] Go.wp_at_zero Go.wp_at_succ
end Go.Proofs.YtbmaffijncapiaaGreatDoor

/- matrix's laws: same, line, is, comes; the matrix's Row; the reference's Cols. -/
namespace Go.Proofs.YtbmaffijncapiaaGreatDoor
open Num
open Go.ChangeShapes Go.WideShapes Go.ChangeAt Go.RowKit
set_option linter.unusedVariables false
set_option linter.unusedSimpArgs false
attribute [local go_sem ↓] Go.wp_at_zero Go.wp_at_succ
theorem prs_rrow : Prs (fun t => t = 177 ∨ t = 56) (RRow 0) := prs_row lims_ref _ _
end Go.Proofs.YtbmaffijncapiaaGreatDoor

/- matrix: Apply. -/
namespace Go.Proofs.YtbmaffijncapiaaGreatDoor
open Num
open Go.ChangeShapes Go.WideShapes Go.ChangeAt Go.RowKit
set_option linter.unusedVariables false
set_option linter.unusedSimpArgs false
attribute [local go_sem ↓] Go.wp_at_zero Go.wp_at_succ
end Go.Proofs.YtbmaffijncapiaaGreatDoor

/- matrices, plain: the laws of sums and products. -/
namespace Go.Proofs.YtbmaffijncapiaaGreatDoor
open Num
set_option linter.unusedVariables false
set_option linter.unusedSimpArgs false
end Go.Proofs.YtbmaffijncapiaaGreatDoor

/- matrix's laws: rows, made. -/
namespace Go.Proofs.YtbmaffijncapiaaGreatDoor
open Num
open Go.ChangeShapes Go.WideShapes Go.ChangeAt Go.RowKit
set_option linter.unusedVariables false
set_option linter.unusedSimpArgs false
attribute [local go_sem ↓] Go.wp_at_zero Go.wp_at_succ
end Go.Proofs.YtbmaffijncapiaaGreatDoor

/- matrices that New makes: what is done to them, in one form. -/
namespace Go.Proofs.YtbmaffijncapiaaGreatDoor
open Num
open Go.ChangeShapes Go.WideShapes Go.ChangeAt Go.RowKit
set_option linter.unusedVariables false
set_option linter.unusedSimpArgs false
structure Mt (k : Nat) (g : Grid) (v : Value) (w : World) : Prop where
  m : IsM 0 w v g
  rc : Rct g (cols g)
  sz : 0 < g.length ∧ 0 < cols g ∧ g.length ≤ 16 ∧ cols g ≤ 16
  bd : BdM k g
theorem Mt.keep {k : Nat} {g : Grid} {v : Value} {w w' : World} (h : Mt k g v w) (b : Below w.heap.size w w') : Mt k g v w' := ⟨h.m.keep b, h.rc, h.sz, h.bd⟩
theorem Mt.mono {k m : Nat} {g : Grid} {v : Value} {w : World} (h : Mt k g v w) (hk : k ≤ m) : Mt m g v w := ⟨h.m, h.rc, h.sz, h.bd.mono hk⟩
theorem Mt.colsC {k n : Nat} {g : Grid} {v : Value} {w : World} (h1 : Mt k g v w) (hn : cols g = n) :
    Calls Tryz.prog 27 #[v] w fun e w' => e = .returned (.int .i64 (n : Nat)) ∧ Below w.heap.size w w' := by
  obtain ⟨a, c, rfl, hl⟩ := h1.m
  rw [← hn]
  exact colsM_c a c g w hl
end Go.Proofs.YtbmaffijncapiaaGreatDoor

/- matrix: what Pivots' iterator tells; Rank. -/
namespace Go.Proofs.YtbmaffijncapiaaGreatDoor
open Num
open Go.ChangeShapes Go.WideShapes Go.ChangeAt Go.RowKit
set_option linter.unusedVariables false
set_option linter.unusedSimpArgs false
attribute [local go_sem ↓] Go.wp_at_zero Go.wp_at_succ
def KpC (c : Nat) (X Y : World) : Prop := X.heap.size ≤ Y.heap.size ∧ ∀ (B i : Nat) (v : Value), B ≠ c → X.cell? ⟨B, i, none⟩ = some v → Y.cell? ⟨B, i, none⟩ = some v
theorem KpC.refl (c : Nat) (X : World) : KpC c X X := ⟨Nat.le_refl _, fun _ _ _ _ h => h⟩
theorem KpC.trans {c : Nat} {X Y Z : World} (h : KpC c X Y) (k : KpC c Y Z) : KpC c X Z := ⟨Nat.le_trans h.1 k.1, fun B i v hb hv => k.2 B i v hb (h.2 B i v hb hv)⟩
end Go.Proofs.YtbmaffijncapiaaGreatDoor

/- matrix: Rank. -/
namespace Go.Proofs.YtbmaffijncapiaaGreatDoor
open Num
open Go.ChangeShapes Go.WideShapes Go.ChangeAt Go.RowKit
set_option linter.unusedVariables false
set_option linter.unusedSimpArgs false
attribute [local go_sem ↓] Go.wp_at_zero Go.wp_at_succ
attribute [local go_sem] Oper.semAt_some
end Go.Proofs.YtbmaffijncapiaaGreatDoor

/- matrices, plain: determinants of what is turned, swapped, multiplied; ranks. -/
namespace Go.Proofs.YtbmaffijncapiaaGreatDoor
open Num
open Go.ChangeShapes Go.WideShapes Go.ChangeAt Go.RowKit
set_option linter.unusedVariables false
set_option linter.unusedSimpArgs false
end Go.Proofs.YtbmaffijncapiaaGreatDoor

/- matrix's laws: unit: a number times the identity. -/
namespace Go.Proofs.YtbmaffijncapiaaGreatDoor
open Num
open Go.ChangeShapes Go.WideShapes Go.ChangeAt Go.RowKit
set_option linter.unusedVariables false
set_option linter.unusedSimpArgs false
attribute [local go_sem ↓] Go.wp_at_zero Go.wp_at_succ
end Go.Proofs.YtbmaffijncapiaaGreatDoor

