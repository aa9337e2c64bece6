/- Texts of this seat, laid together: MxT, MwA, MwB, MwC, MwG, MwD, MwE, MwL, MwM, MwH, MwI. Each opens with its own remark, which says what it proves, and under which conditions. -/
import Derived.Test.YthaohpfbengabaaGreatDoorQ14
import Derived.Test.YthaohpfbengabaaGreatDoorQ11
import Derived.Test.YthaohpfbengabaaGreatDoorQ10
import Derived.Test.YthaohpfbengabaaGreatDoorQ13
import Derived.Test.YthaohpfbengabaaGreatDoorQ08
import Derived.Test.YthaohpfbengabaaGreatDoorQ01
set_option linter.unusedVariables false
set_option linter.unusedSimpArgs false
/- row: Text; matrix: Text. -/
namespace Go.Proofs.YthaohpfbengabaaGreatDoor
open Num
open Go.ChangeShapes Go.WideShapes Go.ChangeAt Go.RowKit
set_option linter.unusedVariables false
set_option linter.unusedSimpArgs false
attribute [local go_sem ↓] Go.wp_at_zero Go.wp_at_succ
/-- a list's text -/
def brTxt (L : List (List UInt8)) : List UInt8 := 91 :: (Lib.join L [32] ++ [93])
/-- a row's text -/
def rowTxt (l : List Int) : List UInt8 := brTxt (l.map intTxt)
/-- a matrix's text -/
def matTxt (g : Grid) : List UInt8 := brTxt (g.map rowTxt)
theorem brTxt_arr (L : List (List UInt8)) : (⟨#[91]⟩ : ByteArray) ++ ⟨(Lib.join L [32]).toArray⟩ ++ ⟨#[93]⟩ = ⟨(brTxt L).toArray⟩ := by
  apply ByteArray.ext
  simp [brTxt, ByteArray.data_append]
set_option maxRecDepth 100000 in
set_option maxHeartbeats 4000000 in
theorem rowText_c (v : Value) (l : List Int) (k : Nat) (w : World) (hv : PRow 0 w v l) (hl : l.length ≤ 1099511627775) (hb : ∀ j, Bd k (l.getD j 0)) (hk : k ≤ 2147483648) (hlen : (Lib.join (l.map intTxt) [32]).length ≤ 140737488355328) :
    Calls Tryz.prog 84 #[v] w fun e w' => e = .returned (.string ⟨(rowTxt l).toArray⟩) ∧ Below w.heap.size w w' := by
  have HV := Lib.hid hv
  have HBD := Lib.hid hb
  have HLEN := Lib.hid hlen
  obtain ⟨va, vc, rfl, -⟩ := hv
  clear hb hlen
  have hB := Below.refl w.heap.size w
  go_enter Tryz.func84, Tryz.ntmps84
  go_wp2
  go_loopw [3, 8] (fun v x wr => ∃ j : Nat, j ≤ l.length ∧ x = .int .i64 j ∧ Hid (OwnL 9 PTx w wr v ((l.take j).map intTxt))) (fun _ x _ => l.length - (intOf x).toNat)
  case atStart => exact ⟨0, Nat.zero_le _, rfl, Lib.hid (OwnL.nil _ _ hB)⟩
  case round =>
    obtain ⟨j, hj, rfl, hO⟩ := hrel
    have hBr := hO.out.bel
    obtain ⟨oa, oc, hvv⟩ := hO.out.ex
    rw [List.length_map, List.length_take, Nat.min_eq_left hj] at hvv
    subst hvv
    by_cases hlt : j < l.length
    · have hltI : (j : Int) < (l.length : Int) := by omega
      obtain ⟨a', c', he, -, vr⟩ := (HV.out.keep lims_int hBr).view
      obtain ⟨rfl, -, rfl⟩ := Value.slice.inj he
      obtain ⟨b, off, n2, a2, l2, cc2, rfl, d0, d1, hi⟩ := vr j hlt
      have bj := HBD.out j
      have HTK := Lib.hid (take_getD 0 hlt)
      obtain ⟨x, hx⟩ : ∃ x, l.getD j 0 = x := ⟨_, rfl⟩
      rw [hx] at hi bj HTK
      have tc := fun W (h : Below wr.heap.size wr W) => intText_c _ x k W (hi.keep h) bj hk
      have zd := cell_lt d0
      have hBw := Below.refl wr.heap.size wr
      clear hx he vr hi bj
      go_wp2_with fail
      refine (tc _ (by repeat (first | exact Below.refl _ _ | exact hBw | refine Below.drew ?_ | refine below_drewN ?_ _ | refine bset ?_ (by simp <;> omega) _ | refine bal ?_ _))).mono ?_
      rintro e w2 ⟨rfl, hb2⟩
      have hb2' : Below wr.heap.size wr w2 := bthen (by repeat (first | exact Below.refl _ _ | exact hBw | refine Below.drew ?_ | refine below_drewN ?_ _ | refine bset ?_ (by simp <;> omega) _ | refine bal ?_ _)) hb2
      have HO2 := Lib.hid (hO.out.below prs_ptx hb2')
      clear tc hO d0 d1
      go_wp2_with (at_builtin; refine appL elStr prs_ptx (fun h => h) (by rfl) (by rfl) (HO2.out.below prs_ptx (bal (Below.refl _ _) _)) (show PTx _ (.string ⟨(intTxt x).toArray⟩) (intTxt x) from rfl) (by rfl) (by rfl) (cell_new rfl rfl) (by rw [List.length_map, List.length_take]; omega) (by rw [List.length_map, List.length_take]; unfold maxLen; omega) ?_)
      intro v' w8 hO8 hk8
      have HO8 := Lib.hid (show OwnL 9 PTx w w8 v' ((l.take (j + 1)).map intTxt) from by rw [HTK.out, List.map_append, List.map_take]; exact hO8)
      clear hO8 hk8
      go_wp2
      exact ⟨⟨j + 1, by omega, by go_num, HO8⟩, by simp [intOf]; omega⟩
    · obtain rfl : j = l.length := by omega
      have hltI : ¬ (l.length : Int) < (l.length : Int) := by omega
      have HEQ := Lib.hid (brTxt_arr (l.map intTxt))
      have jc := fun W (h : Below wr.heap.size wr W) => join_c (.slice oa l.length oc) (l.map intTxt) w.heap.size W ((by have h2 := hO.out.isL; rw [List.take_length] at h2; exact h2 : IsL 9 PTx w.heap.size wr _ _).keep prs_ptx h) (by rw [List.length_map]; omega) HLEN.out
      have hJ := HLEN.out
      obtain ⟨J, hJE⟩ : ∃ J, Lib.join (l.map intTxt) [32] = J := ⟨_, rfl⟩
      rw [hJE] at jc HEQ hJ
      clear hJE hO
      have hJ1 : ¬ 9223372036854775807 < 1 + J.length := by omega
      have hJ2 : ¬ 9223372036854775807 < 1 + J.length + 1 := by omega
      have hBw := Below.refl wr.heap.size wr
      go_wp2_with fail
      refine (jc _ (by repeat (first | exact Below.refl _ _ | exact hBw | refine Below.drew ?_ | refine below_drewN ?_ _ | refine bset ?_ (by simp <;> omega) _ | refine bal ?_ _))).mono ?_
      rintro e w2 ⟨rfl, hb2⟩
      have hb3 := bthen hBr (bthen (by repeat (first | exact Below.refl _ _ | exact hBw | refine Below.drew ?_ | refine below_drewN ?_ _ | refine bset ?_ (by simp <;> omega) _ | refine bal ?_ _)) hb2)
      clear jc
      go_wp2
      go_ret
      exact ⟨congrArg (fun s => Ending.returned (.string s)) HEQ.out, by repeat (first | exact Below.refl _ _ | exact hb3 | refine Below.drew ?_ | refine below_drewN ?_ _ | refine bset ?_ (by simp <;> omega) _ | refine bal ?_ _)⟩
set_option maxRecDepth 100000 in
set_option maxHeartbeats 4000000 in
theorem matText_c (v : Value) (g : Grid) (k : Nat) (w : World) (hv : IsM 0 w v g) (hg : g.length ≤ 1099511627775) (hl : ∀ i, i < g.length → (g.getD i []).length ≤ 1099511627775) (hb : BdM k g) (hk : k ≤ 2147483648) (h1 : ∀ i, i < g.length → (Lib.join ((g.getD i []).map intTxt) [32]).length ≤ 140737488355328) (h2 : (Lib.join (g.map rowTxt) [32]).length ≤ 140737488355328) :
    Calls Tryz.prog 30 #[v] w fun e w' => e = .returned (.string ⟨(matTxt g).toArray⟩) ∧ Below w.heap.size w w' := by
  obtain ⟨ga, gc, rfl, hv⟩ := hv
  have HV := Lib.hid hv
  have HBD := Lib.hid hb
  have HLEN := Lib.hid (And.intro hl (And.intro h1 h2))
  clear hb hl h1 h2 hv
  have hB := Below.refl w.heap.size w
  go_enter Tryz.func30, Tryz.ntmps30
  go_wp2
  refine wp_name fun w1 hW1 => ?_
  have hB1 : Below w.heap.size w w1 := by rw [hW1]; repeat (first | exact Below.refl _ _ | exact hB | refine Below.drew ?_ | refine below_drewN ?_ _ | refine bset ?_ (by simp <;> omega) _ | refine bal ?_ _)
  clear hW1
  go_loopw [3, 9] (fun v x wr => ∃ j : Nat, j ≤ g.length ∧ x = .int .i64 j ∧ Hid (OwnL 9 PTx w wr v ((g.take j).map rowTxt))) (fun _ x _ => g.length - (intOf x).toNat)
  case atStart => exact ⟨0, Nat.zero_le _, rfl, Lib.hid (OwnL.nil _ _ hB1)⟩
  case round =>
    obtain ⟨j, hj, rfl, hO⟩ := hrel
    have hBr := hO.out.bel
    obtain ⟨oa, oc, hvv⟩ := hO.out.ex
    rw [List.length_map, List.length_take, Nat.min_eq_left hj] at hvv
    subst hvv
    by_cases hlt : j < g.length
    · have hltI : (j : Int) < (g.length : Int) := by omega
      obtain ⟨c', gb, go, ra, rc, e2, hu, hp⟩ := (HV.out.keep (prs_prow 0) hBr).row hlt
      obtain ⟨rfl, -, rfl⟩ := Value.slice.inj e2
      have bj := HBD.out j
      have HTK := Lib.hid (take_getD [] hlt)
      have hlj := HLEN.out.1 j hlt
      have h1j := HLEN.out.2.1 j hlt
      obtain ⟨x, hx⟩ : ∃ x, g.getD j [] = x := ⟨_, rfl⟩
      rw [hx] at hu hp HTK hlj h1j
      have bj2 : ∀ i, Bd k (x.getD i 0) := fun i => by rw [← hx]; exact bj i
      have tc := fun W (h : Below wr.heap.size wr W) => rowText_c _ x k W (hp.keep lims_int h) hlj bj2 hk h1j
      have zd := cell_lt hu
      have hBw := Below.refl wr.heap.size wr
      clear hx e2 hp bj bj2 hlj h1j
      go_wp2_with fail
      refine (tc _ (by repeat (first | exact Below.refl _ _ | exact hBw | refine Below.drew ?_ | refine below_drewN ?_ _ | refine bset ?_ (by simp <;> omega) _ | refine bal ?_ _))).mono ?_
      rintro e w2 ⟨rfl, hb2⟩
      have hb2' : Below wr.heap.size wr w2 := bthen (by repeat (first | exact Below.refl _ _ | exact hBw | refine Below.drew ?_ | refine below_drewN ?_ _ | refine bset ?_ (by simp <;> omega) _ | refine bal ?_ _)) hb2
      have HO2 := Lib.hid (hO.out.below prs_ptx hb2')
      clear tc hO hu
      go_wp2_with (at_builtin; refine appL elStr prs_ptx (fun h => h) (by rfl) (by rfl) (HO2.out.below prs_ptx (bal (Below.refl _ _) _)) (show PTx _ (.string ⟨(rowTxt x).toArray⟩) (rowTxt x) from rfl) (by rfl) (by rfl) (cell_new rfl rfl) (by rw [List.length_map, List.length_take]; omega) (by rw [List.length_map, List.length_take]; unfold maxLen; omega) ?_)
      intro v' w8 hO8 hk8
      have HO8 := Lib.hid (show OwnL 9 PTx w w8 v' ((g.take (j + 1)).map rowTxt) from by rw [HTK.out, List.map_append, List.map_take]; exact hO8)
      clear hO8 hk8
      go_wp2
      exact ⟨⟨j + 1, by omega, by go_num, HO8⟩, by simp [intOf]; omega⟩
    · obtain rfl : j = g.length := by omega
      have hltI : ¬ (g.length : Int) < (g.length : Int) := by omega
      have HEQ := Lib.hid (brTxt_arr (g.map rowTxt))
      have jc := fun W (h : Below wr.heap.size wr W) => join_c (.slice oa g.length oc) (g.map rowTxt) w.heap.size W ((by have h2 := hO.out.isL; rw [List.take_length] at h2; exact h2 : IsL 9 PTx w.heap.size wr _ _).keep prs_ptx h) (by rw [List.length_map]; omega) HLEN.out.2.2
      have hJ := HLEN.out.2.2
      obtain ⟨J, hJE⟩ : ∃ J, Lib.join (g.map rowTxt) [32] = J := ⟨_, rfl⟩
      rw [hJE] at jc HEQ hJ
      clear hJE hO
      have hJ1 : ¬ 9223372036854775807 < 1 + J.length := by omega
      have hJ2 : ¬ 9223372036854775807 < 1 + J.length + 1 := by omega
      have hBw := Below.refl wr.heap.size wr
      go_wp2_with fail
      refine (jc _ (by repeat (first | exact Below.refl _ _ | exact hBw | refine Below.drew ?_ | refine below_drewN ?_ _ | refine bset ?_ (by simp <;> omega) _ | refine bal ?_ _))).mono ?_
      rintro e w2 ⟨rfl, hb2⟩
      have hb3 := bthen hBr (bthen (by repeat (first | exact Below.refl _ _ | exact hBw | refine Below.drew ?_ | refine below_drewN ?_ _ | refine bset ?_ (by simp <;> omega) _ | refine bal ?_ _)) hb2)
      clear jc
      go_wp2
      go_ret
      exact ⟨congrArg (fun s => Ending.returned (.string s)) HEQ.out, by repeat (first | exact Below.refl _ _ | exact hb3 | refine Below.drew ?_ | refine below_drewN ?_ _ | refine bset ?_ (by simp <;> omega) _ | refine bal ?_ _)⟩
end Go.Proofs.YthaohpfbengabaaGreatDoor

/- matrix's laws: list; Pivots as a value; works answers true. -/
namespace Go.Proofs.YthaohpfbengabaaGreatDoor
open Num
open Go.ChangeShapes Go.WideShapes Go.ChangeAt Go.RowKit
set_option linter.unusedVariables false
set_option linter.unusedSimpArgs false
attribute [local go_sem ↓] Go.wp_at_zero Go.wp_at_succ
set_option maxRecDepth 100000 in
set_option maxHeartbeats 4000000 in
theorem list_c (v : Value) (l : List Int) (w : World) (hv : RowI w v l) (hl : l.length ≤ 1099511627000) :
    Calls Tryz.prog 43 #[v] w fun e w' => (∃ v', e = .returned v' ∧ RowO IsInt 36 w.heap.size w' v' l) ∧ Below w.heap.size w w' := by
  obtain ⟨ra, rc, rfl, hr⟩ := hv
  have HR := Lib.hid hr
  clear hr
  have hB := Below.refl w.heap.size w
  have hmk : ∀ w, (Instr.makeSlice 59 (.int .i64 0) (.int .i64 ((l.length : Int) + 2))).run Tryz.prog w = .ok (.slice (some ⟨w.heap.size, 0, none⟩) 0 (l.length + 2)) (w.alloc (.cells (zcel (l.length + 2)) 36)) := mkCap (l.length + 2) (by omega)
  go_enter Tryz.func43, Tryz.ntmps43
  go_wp2
  refine wp_name fun w3 hW3 => ?_
  have hO3 : Hid (OwnF IsInt 36 w w3 (.slice (some ⟨w.heap.size, 0, none⟩) 0 (l.length + 2)) 0 (fun i => l.getD i 0)) := Lib.hid (by rw [hW3]; exact ownF_cap w _ (by unfold maxLen; omega) _)
  clear hW3 hmk
  go_loopw [3, 12] (fun v x wr => ∃ j : Nat, j ≤ l.length ∧ x = .int .i64 j ∧ Hid (OwnF IsInt 36 w wr v j (fun i => l.getD i 0))) (fun _ x _ => l.length - (intOf x).toNat)
  case atStart => exact ⟨0, Nat.zero_le _, rfl, hO3⟩
  case round =>
    obtain ⟨j, hj, rfl, hF⟩ := hrel
    obtain ⟨fa, fc, hfv⟩ : ∃ a c, _ = Value.slice a j c := by obtain ⟨a, c, h, _⟩ := hF.out.view; exact ⟨a, c, h⟩
    subst hfv
    by_cases hlt2 : j < l.length
    · have hltJ : (j : Int) < (l.length : Int) := by omega
      obtain ⟨rb, ro, rfl, hc, hI⟩ := HR.out j hlt2
      have hc2 := bkeep hF.out.bel hc
      have zc := cell_lt hc2
      have oc := fun W => of_c (l.getD j 0) W hI.1 hI.2
      have HSN := Lib.hid (snoc_fun l j hlt2)
      obtain ⟨z, hz⟩ : ∃ z, l.getD j 0 = z := ⟨_, rfl⟩
      rw [hz] at hc2 oc HSN
      clear hc hI hz
      go_wp2_with fail
      refine (oc _).mono ?_
      rintro e w5 ⟨⟨v5, rfl, hi5⟩, hb5⟩
      have HF5 := Lib.hid (hF.out.below lims_int hb5)
      have HI5 := Lib.hid hi5
      obtain ⟨n5, a5, c5, l5, rfl, -⟩ := hi5
      unfold iv at *
      clear oc
      go_wp2_with (at_builtin; refine app_num elInt (by decide) lims_int (by rfl) (by rfl) HF5.out HI5.out (by rfl) (by rfl) (by omega) ?_)
      intro v' w8 hF8 _ _
      have HF8 := Lib.hid (hF8.congr' HSN.out)
      clear hF8
      go_wp2
      exact ⟨⟨j + 1, by omega, by go_num, HF8⟩, meas hlt2 (by go_num) rfl⟩
    · obtain rfl : j = l.length := by omega
      have HRO := Lib.hid hF.out.rowO
      have hBr := hF.out.bel
      go_wp2
      go_ret
      exact ⟨⟨_, rfl, HRO.out⟩, hBr⟩
set_option maxRecDepth 100000 in
theorem pivots_v (v : Value) (a : Option Addr) (n c : Nat) (w : World) (hv : v = .agg #[.slice a n c]) : Calls Tryz.prog 17 #[v] w fun e w' => e = .returned (.func (.func 79) #[] #[.pointer (some ⟨w.heap.size, 0, none⟩)]) ∧ Below w.heap.size w w' := by
  subst hv
  have hB := Below.refl w.heap.size w
  go_enter Tryz.func17, Tryz.ntmps17
  go_wp2
  go_ret
  exact ⟨rfl, by repeat (first | exact Below.refl _ _ | exact hB | refine Below.drew ?_ | refine below_drewN ?_ _ | refine bset ?_ (by simp <;> omega) _ | refine bal ?_ _)⟩
theorem rowI_two {w : World} {b : Nat} {x y : Int} {c : Nat} (h1 : w.cell? ⟨b, 0, none⟩ = some (.int .i64 x)) (h2 : w.cell? ⟨b, 1, none⟩ = some (.int .i64 y)) (hx : I64 x) (hy : I64 y) : RowI w (.slice (some ⟨b, 0, none⟩) 2 c) [x, y] := by
  refine ⟨_, c, rfl, fun k hk => ⟨b, 0, rfl, ?_⟩⟩
  match k, hk with
  | 0, _ => exact ⟨by simpa using h1, hx⟩
  | 1, _ => exact ⟨by simpa using h2, hy⟩
theorem isL_rows2 {w : World} {b : Nat} {u1 u2 : Value} {l1 l2 : List Int} {c : Nat} (h1 : w.cell? ⟨b, 0, none⟩ = some u1) (h2 : w.cell? ⟨b, 1, none⟩ = some u2) (hc : 2 ≤ c) (hc2 : c ≤ maxLen) (ht : typOf w b = some 59) (p1 : PRow 0 w u1 l1) (p2 : PRow 0 w u2 l2) :
    IsL 59 (PRow 0) 0 w (.slice (some ⟨b, 0, none⟩) 2 c) [l1, l2] := by
  refine ⟨_, c, rfl, hc, hc2, .inr ⟨b, 0, rfl, Nat.zero_le _, ht, fun k hk => ?_⟩⟩
  match k, hk with
  | 0, _ => exact ⟨u1, by simpa using h1, p1⟩
  | 1, _ => exact ⟨u2, by simpa using h2, p2⟩
theorem bdM_of {k : Nat} {g : Grid} (h : ∀ r ∈ g, ∀ x ∈ r, x.natAbs < 2 ^ k) : BdM k g := by
  intro i j
  unfold gat
  by_cases hi : i < g.length
  · have e : g.getD i [] = g[i] := by simp [hi]
    rw [e]
    by_cases hj : j < g[i].length
    · have e2 : g[i].getD j 0 = g[i][j] := by simp [hj]
      rw [e2]; exact h _ (List.getElem_mem _) _ (List.getElem_mem _)
    · rw [List.getD_eq_getElem?_getD, List.getElem?_eq_none (by omega)]; exact bd_zero
  · have e : g.getD i [] = [] := by rw [List.getD_eq_getElem?_getD, List.getElem?_eq_none (by omega)]; rfl
    rw [e]; exact bd_zero
/-- the example's matrices -/
def wG : Grid := [[1, 2], [3, 4]]
theorem wG_fits : fitsE wG = 0 := by decide
theorem wG_times : timesG wG wG = [[7, 10], [15, 22]] := by kernel_rfl
theorem wG_sq : sqB wG = true := by kernel_rfl
theorem wG_det : Det.detE wG.length (gat wG) = -2 := by kernel_rfl
theorem wG_inv : invG wG = [[-4, 2], [3, -1]] := by kernel_rfl
theorem wG_invD : invD wG = 2 := by kernel_rfl
theorem wG_txt1 : matTxt [[7, 10], [15, 22]] = [91, 91, 55, 32, 49, 48, 93, 32, 91, 49, 53, 32, 50, 50, 93, 93] := by kernel_rfl
theorem wG_txt2 : matTxt [[-4, 2], [3, -1]] = [91, 91, 45, 52, 32, 50, 93, 32, 91, 51, 32, 45, 49, 93, 93] := by kernel_rfl
theorem wG_txt3 : intTxt 2 = [50] := by kernel_rfl
end Go.Proofs.YthaohpfbengabaaGreatDoor

/- matrix's laws: works answers true. -/
namespace Go.Proofs.YthaohpfbengabaaGreatDoor
open Num
open Go.ChangeShapes Go.WideShapes Go.ChangeAt Go.RowKit
set_option linter.unusedVariables false
set_option linter.unusedSimpArgs false
attribute [local go_sem ↓] Go.wp_at_zero Go.wp_at_succ
theorem equalIn_func_nil {P : Program} (w : World) (d : Nat) (t : TypeId) {ps rs : Array TypeId} {v : Bool} (f : Fn) (bs cs : Array Value) (h : P.underlying t = some (.func ps rs v)) : (Op.equalIn (d + 1) t (.func f bs cs) .nilFunc).run P w = .ok false w := by
  simp [Op.equalIn, run_underlying h]
theorem eql_func_nil {P : Program} (w : World) (t : TypeId) {ps rs : Array TypeId} {v : Bool} (f : Fn) (bs cs : Array Value) (h : P.underlying t = some (.func ps rs v)) : (binOp .eql t (.func f bs cs) .nilFunc).run P w = .ok (.bool false) w := by
  simp only [binOp]
  simp [Op.equal, Op.maxDepth, equalIn_func_nil w 9999 t f bs cs h]
theorem wt1_r : ∀ i, i < ([[7, 10], [15, 22]] : Grid).length → (Lib.join ((([[7, 10], [15, 22]] : Grid).getD i []).map intTxt) [32]).length ≤ 140737488355328 := by
  intro i hi
  have h2 : i < 2 := hi
  have e0 : (Lib.join (([7, 10] : List Int).map intTxt) [32]).length = 4 := by kernel_rfl
  have e1 : (Lib.join (([15, 22] : List Int).map intTxt) [32]).length = 5 := by kernel_rfl
  rcases (show i = 0 ∨ i = 1 by omega) with rfl | rfl
  · exact Nat.le_trans (Nat.le_of_eq e0) (by decide)
  · exact Nat.le_trans (Nat.le_of_eq e1) (by decide)
theorem wt1_m : (Lib.join (([[7, 10], [15, 22]] : Grid).map rowTxt) [32]).length ≤ 140737488355328 := by
  have e : (Lib.join (([[7, 10], [15, 22]] : Grid).map rowTxt) [32]).length = 14 := by kernel_rfl
  exact Nat.le_trans (Nat.le_of_eq e) (by decide)
theorem wt2_r : ∀ i, i < ([[-4, 2], [3, -1]] : Grid).length → (Lib.join ((([[-4, 2], [3, -1]] : Grid).getD i []).map intTxt) [32]).length ≤ 140737488355328 := by
  intro i hi
  have h2 : i < 2 := hi
  have e0 : (Lib.join (([-4, 2] : List Int).map intTxt) [32]).length = 4 := by kernel_rfl
  have e1 : (Lib.join (([3, -1] : List Int).map intTxt) [32]).length = 4 := by kernel_rfl
  rcases (show i = 0 ∨ i = 1 by omega) with rfl | rfl
  · exact Nat.le_trans (Nat.le_of_eq e0) (by decide)
  · exact Nat.le_trans (Nat.le_of_eq e1) (by decide)
theorem wt2_m : (Lib.join (([[-4, 2], [3, -1]] : Grid).map rowTxt) [32]).length ≤ 140737488355328 := by
  have e : (Lib.join (([[-4, 2], [3, -1]] : Grid).map rowTxt) [32]).length = 13 := by kernel_rfl
  exact Nat.le_trans (Nat.le_of_eq e) (by decide)
set_option maxRecDepth 100000 in
set_option maxHeartbeats 8000000 in
theorem works_c (w : World) : Calls Tryz.prog 9 #[] w fun e w' => e = .returned (.bool true) ∧ Below w.heap.size w w' := by
  have hB := Below.refl w.heap.size w
  go_enter Tryz.func9, Tryz.ntmps9
  go_wp2_with fail
  refine (list_c _ [1, 2] _ (rowI_two (cell_new rfl rfl) (cell_new rfl rfl) (by unfold I64; omega) (by unfold I64; omega)) (by decide)).mono ?_
  rintro e w1 ⟨⟨v1, rfl, hv1⟩, hb1⟩
  have hB1 : Below w.heap.size w w1 := bthen (by repeat (first | exact Below.refl _ _ | exact hB | refine Below.drew ?_ | refine below_drewN ?_ _ | refine bset ?_ (by simp <;> omega) _ | refine bal ?_ _)) hb1
  have HV1 := Lib.hid (show PRow 0 w1 v1 [1, 2] from hv1.row.rebase (Nat.zero_le _))
  obtain ⟨a1, c1, hv1e⟩ := hv1.ex
  replace hv1e : v1 = .slice a1 2 c1 := hv1e
  subst hv1e
  have hBw1 := Below.refl w1.heap.size w1
  clear hv1 hb1
  go_wp2_with fail
  refine (list_c _ [3, 4] _ (rowI_two (cell_new rfl rfl) (cell_new rfl rfl) (by unfold I64; omega) (by unfold I64; omega)) (by decide)).mono ?_
  rintro e w2 ⟨⟨v2, rfl, hv2⟩, hb2⟩
  have hb12 : Below w1.heap.size w1 w2 := bthen (by repeat (first | exact Below.refl _ _ | exact hBw1 | refine Below.drew ?_ | refine below_drewN ?_ _ | refine bset ?_ (by simp <;> omega) _ | refine bal ?_ _)) hb2
  have hB2 := bthen hB1 hb12
  have HV2 := Lib.hid (show PRow 0 w2 v2 [3, 4] from hv2.row.rebase (Nat.zero_le _))
  have HV12 := Lib.hid (HV1.out.keep lims_int hb12)
  obtain ⟨a2, c2, hv2e⟩ := hv2.ex
  replace hv2e : v2 = .slice a2 2 c2 := hv2e
  subst hv2e
  have hBw2 := Below.refl w2.heap.size w2
  clear hv2 hb2 HV1
  go_wp2_with fail
  refine (newM_c _ wG _ (isL_rows2 (cell_new rfl rfl) (cell_new rfl rfl) (by decide) (by unfold maxLen; decide) (typ_fresh rfl) (HV12.out.keep lims_int (bal (Below.refl _ _) _)) (HV2.out.keep lims_int (bal (Below.refl _ _) _))) (by unfold wG; decide)).mono ?_
  rintro e w3 ⟨(⟨-, v3, rfl, hv3⟩ | ⟨hs, -⟩), hb3⟩
  rotate_left
  · exact absurd wG_fits hs
  have hb23 : Below w2.heap.size w2 w3 := bthen (by repeat (first | exact Below.refl _ _ | exact hBw2 | refine Below.drew ?_ | refine below_drewN ?_ _ | refine bset ?_ (by simp <;> omega) _ | refine bal ?_ _)) hb3
  have hB3 := bthen hB2 hb23
  have HV3 := Lib.hid (hv3.rebase (Nat.zero_le _))
  obtain ⟨a3, c3, hv3e⟩ := hv3.lit
  replace hv3e : v3 = .agg #[.slice a3 2 c3] := hv3e
  subst hv3e
  have hBw3 := Below.refl w3.heap.size w3
  clear hv3 hb3 HV2 HV12
  go_wp2_with fail
  refine (rowsM_c a3 2 c3 _).mono ?_
  rintro e w4 ⟨rfl, hb4⟩
  have hb34 : Below w3.heap.size w3 w4 := bthen (by repeat (first | exact Below.refl _ _ | exact hBw3 | refine Below.drew ?_ | refine below_drewN ?_ _ | refine bset ?_ (by simp <;> omega) _ | refine bal ?_ _)) hb4
  have m0 : w4.cell? ⟨w3.heap.size, 0, none⟩ = some (.slice a3 2 c3) := bkeep hb4 (cell_new rfl rfl)
  have HV4 := Lib.hid (HV3.out.keep hb34)
  have hB4 := bthen hB3 hb34
  have zm := cell_lt m0
  have hBw4 := Below.refl w4.heap.size w4
  clear hb4
  go_wp2_with fail
  have hc5 : ∀ W, Below w4.heap.size w4 W → Calls Tryz.prog 61 #[.agg #[.slice a3 2 c3]] W fun e w' => e = .returned (.int .i64 2) ∧ Below W.heap.size W w' := fun W q => by
    obtain ⟨a', c', e, hl⟩ := HV4.out.keep q
    cases e
    exact colsM_c _ _ wG W hl
  refine (hc5 _ (by repeat (first | exact Below.refl _ _ | exact hBw4 | refine Below.drew ?_ | refine below_drewN ?_ _ | refine bset ?_ (by simp <;> omega) _ | refine bal ?_ _))).mono ?_
  rintro e w5 ⟨rfl, hb5⟩
  have hb45 : Below w4.heap.size w4 w5 := bthen (by repeat (first | exact Below.refl _ _ | exact hBw4 | refine Below.drew ?_ | refine below_drewN ?_ _ | refine bset ?_ (by simp <;> omega) _ | refine bal ?_ _)) hb5
  replace m0 := bkeep hb45 m0
  have HV5 := Lib.hid (HV4.out.keep hb45)
  have hB5 := bthen hB4 hb45
  replace zm := cell_lt m0
  have hBw5 := Below.refl w5.heap.size w5
  clear hb5 hc5 HV4 HV3
  go_wp2_with fail
  refine (pivots_v _ a3 2 c3 _ rfl).mono ?_
  rintro e w6 ⟨rfl, hb6⟩
  have hb56 : Below w5.heap.size w5 w6 := bthen (by repeat (first | exact Below.refl _ _ | exact hBw5 | refine Below.drew ?_ | refine below_drewN ?_ _ | refine bset ?_ (by simp <;> omega) _ | refine bal ?_ _)) hb6
  replace m0 := bkeep hb56 m0
  have HV6 := Lib.hid (HV5.out.keep hb56)
  have hB6 := bthen hB5 hb56
  replace zm := cell_lt m0
  have hBw6 := Below.refl w6.heap.size w6
  clear hb6 HV5
  have hrc : Rct wG (cols wG) := by intro i hi; have h2 : i < 2 := hi; rcases (show i = 0 ∨ i = 1 by omega) with rfl | rfl <;> rfl
  have HRC := Lib.hid hrc
  clear hrc
  have hfn := fun W f bs cs => eql_func_nil (P := Tryz.prog) W 49 f bs cs Tryz.underlying49
  go_wp2_with fail
  refine (timesM_c _ _ wG wG 3 3 _ (HV6.out.keep (by repeat (first | exact Below.refl _ _ | exact hBw6 | refine Below.drew ?_ | refine below_drewN ?_ _ | refine bset ?_ (by simp <;> omega) _ | refine bal ?_ _))) (HV6.out.keep (by repeat (first | exact Below.refl _ _ | exact hBw6 | refine Below.drew ?_ | refine below_drewN ?_ _ | refine bset ?_ (by simp <;> omega) _ | refine bal ?_ _))) HRC.out HRC.out (bdM_of (by unfold wG; decide)) (bdM_of (by unfold wG; decide)) (by decide) (by decide) (by decide) (by decide)).mono ?_
  rintro e w7 ⟨(⟨-, v7, rfl, hv7⟩ | ⟨hs, -⟩), hb7⟩
  rotate_left
  · exact absurd ⟨rfl, by decide⟩ hs
  have hb67 : Below w6.heap.size w6 w7 := bthen (by repeat (first | exact Below.refl _ _ | exact hBw6 | refine Below.drew ?_ | refine below_drewN ?_ _ | refine bset ?_ (by simp <;> omega) _ | refine bal ?_ _)) hb7
  replace m0 := bkeep hb67 m0
  rw [wG_times] at hv7
  have HP7 := Lib.hid (hv7.rebase (Nat.zero_le _))
  have HV7 := Lib.hid (HV6.out.keep hb67)
  have hB7 := bthen hB6 hb67
  replace zm := cell_lt m0
  obtain ⟨a7, c7, hv7e⟩ := hv7.lit
  replace hv7e : v7 = .agg #[.slice a7 2 c7] := hv7e
  subst hv7e
  have hBw7 := Below.refl w7.heap.size w7
  clear hv7 hb7 HV6
  go_wp2_with fail
  refine (invM_c _ wG 3 _ (HV7.out.keep (by repeat (first | exact Below.refl _ _ | exact hBw7 | refine Below.drew ?_ | refine below_drewN ?_ _ | refine bset ?_ (by simp <;> omega) _ | refine bal ?_ _))) HRC.out (by decide) (by decide) (bdM_of (by unfold wG; decide)) (by decide)).mono ?_
  rintro e w8 ⟨(⟨-, -, v8, u8, rfl, hv8, hu8⟩ | ⟨-, hs, -⟩ | ⟨hs, -⟩), hb8⟩
  rotate_left
  · rw [wG_det] at hs; cases hs
  · rw [wG_sq] at hs; cases hs
  rw [wG_inv] at hv8
  rw [wG_invD] at hu8
  have hb78 : Below w7.heap.size w7 w8 := bthen (by repeat (first | exact Below.refl _ _ | exact hBw7 | refine Below.drew ?_ | refine below_drewN ?_ _ | refine bset ?_ (by simp <;> omega) _ | refine bal ?_ _)) hb8
  have p0 : w8.cell? ⟨w7.heap.size, 0, none⟩ = some (.slice a7 2 c7) := bkeep hb8 (cell_new rfl rfl)
  have HP8 := Lib.hid (HP7.out.keep hb78)
  have HW8 := Lib.hid (hv8.rebase (Nat.zero_le _))
  have HU8 := Lib.hid hu8
  have hB8 := bthen hB7 hb78
  have zp := cell_lt p0
  obtain ⟨a8, c8, hv8e⟩ := hv8.lit
  replace hv8e : v8 = .agg #[.slice a8 2 c8] := hv8e
  subst hv8e
  obtain ⟨n9, a9, c9, l9, rfl, -⟩ := hu8
  unfold iv at *
  have hBw8 := Below.refl w8.heap.size w8
  clear hv8 hb8 HP7 HV7 m0 zm
  go_wp2_with fail
  refine (matText_c _ [[7, 10], [15, 22]] 8 _ (HP8.out.keep (by repeat (first | exact Below.refl _ _ | exact hBw8 | refine Below.drew ?_ | refine below_drewN ?_ _ | refine bset ?_ (by simp <;> omega) _ | refine bal ?_ _))) (by decide) (by decide) (bdM_of (by decide)) (by decide) wt1_r wt1_m).mono ?_
  rw [wG_txt1]
  rintro e w9 ⟨rfl, hb9⟩
  have hb89 : Below w8.heap.size w8 w9 := bthen (by repeat (first | exact Below.refl _ _ | exact hBw8 | refine Below.drew ?_ | refine below_drewN ?_ _ | refine bset ?_ (by simp <;> omega) _ | refine bal ?_ _)) hb9
  have q0 : w9.cell? ⟨w8.heap.size, 0, none⟩ = some (.slice a8 2 c8) := bkeep hb9 (by simp [go_sem])
  have u0 : w9.cell? ⟨w8.heap.size + 1, 0, none⟩ = some (.bool n9) := bkeep hb9 (by simp [go_sem])
  have u1 : w9.cell? ⟨w8.heap.size + 1, 1, none⟩ = some (.slice a9 l9.length c9) := bkeep hb9 (by simp [go_sem])
  have HW9 := Lib.hid (HW8.out.keep hb89)
  have HU9 := Lib.hid (HU8.out.keep hb89)
  have hB9 := bthen hB8 hb89
  have zq := cell_lt q0
  have zu := cell_lt u0
  have hBw9 := Below.refl w9.heap.size w9
  clear hb9 HP8 HW8 HU8 p0 zp
  go_wp2_with fail
  refine (matText_c _ [[-4, 2], [3, -1]] 8 _ (HW9.out.keep (by repeat (first | exact Below.refl _ _ | exact hBw9 | refine Below.drew ?_ | refine below_drewN ?_ _ | refine bset ?_ (by simp <;> omega) _ | refine bal ?_ _))) (by decide) (by decide) (bdM_of (by decide)) (by decide) wt2_r wt2_m).mono ?_
  rw [wG_txt2]
  rintro e w10 ⟨rfl, hb10⟩
  have hb910 : Below w9.heap.size w9 w10 := bthen (by repeat (first | exact Below.refl _ _ | exact hBw9 | refine Below.drew ?_ | refine below_drewN ?_ _ | refine bset ?_ (by simp <;> omega) _ | refine bal ?_ _)) hb10
  replace u0 := bkeep hb910 u0
  replace u1 := bkeep hb910 u1
  have HU10 := Lib.hid (HU9.out.keep hb910)
  have hB10 := bthen hB9 hb910
  replace zu := cell_lt u0
  have hBw10 := Below.refl w10.heap.size w10
  clear hb10 HW9 HU9 q0 zq
  go_wp2_with fail
  refine (intText_c _ 2 8 _ (HU10.out.keep (by repeat (first | exact Below.refl _ _ | exact hBw10 | refine Below.drew ?_ | refine below_drewN ?_ _ | refine bset ?_ (by simp <;> omega) _ | refine bal ?_ _))) (by unfold Bd; decide) (by decide)).mono ?_
  rw [wG_txt3]
  rintro e w11 ⟨rfl, hb11⟩
  have hB11 := bthen hB10 (bthen (show Below w10.heap.size w10 _ by repeat (first | exact Below.refl _ _ | exact hBw10 | refine Below.drew ?_ | refine below_drewN ?_ _ | refine bset ?_ (by simp <;> omega) _ | refine bal ?_ _)) hb11)
  clear HU10 u0 u1
  go_wp2
  go_ret
  exact ⟨rfl, hB11⟩
end Go.Proofs.YthaohpfbengabaaGreatDoor

/- matrix's laws: same, line, is, comes; the matrix's Row; the reference's Cols. -/
namespace Go.Proofs.YthaohpfbengabaaGreatDoor
open Num
open Go.ChangeShapes Go.WideShapes Go.ChangeAt Go.RowKit
set_option linter.unusedVariables false
set_option linter.unusedSimpArgs false
attribute [local go_sem ↓] Go.wp_at_zero Go.wp_at_succ
theorem bool_beq (s : ByteArray) : (s == s) = true := by cases s with | mk d => show (d == d) = true; simp
set_option maxRecDepth 100000 in
set_option maxHeartbeats 4000000 in
theorem mSame_c (vx vy : Value) (x : Int) (k : Nat) (w : World) (hx : IsInt w vx x) (hy : IsRef w vy x) (bx : Bd k x) (hk : k ≤ 1073741824) :
    Calls Tryz.prog 13 #[vx, vy] w fun e w' => e = .returned (.bool true) ∧ Below w.heap.size w w' := by
  have HX := Lib.hid hx
  have HY := Lib.hid hy
  obtain ⟨n1, a1, c1, l1, rfl, -⟩ := hx
  obtain ⟨n2, a2, c2, l2, rfl, -⟩ := hy
  unfold iv at *
  have tx := Lib.hid (fun W (q : Below w.heap.size w W) => intText_c (.agg #[.bool n1, .slice a1 l1.length c1]) x k W (HX.out.keep q) bx (by omega))
  have ty := Lib.hid (fun W (q : Below w.heap.size w W) => rtext_c (.agg #[.bool n2, .slice a2 l2.length c2]) x k W (HY.out.keep q) bx hk)
  obtain ⟨s, hs⟩ : ∃ s, (⟨(intTxt x).toArray⟩ : ByteArray) = s := ⟨_, rfl⟩
  rw [hs] at tx ty
  clear HX HY bx hs
  have hB := Below.refl w.heap.size w
  go_enter Tryz.func13, Tryz.ntmps13
  go_wp2
  refine wp_name fun w0 hW0 => ?_
  have hB0 : Below w.heap.size w w0 := by rw [hW0]; repeat (first | exact Below.refl _ _ | exact hB | refine Below.drew ?_ | refine below_drewN ?_ _ | refine bset ?_ (by simp <;> omega) _ | refine bal ?_ _)
  obtain ⟨x0, x1, y0, y1⟩ : w0.cell? ⟨w.heap.size, 0, none⟩ = some (.bool n1) ∧ w0.cell? ⟨w.heap.size, 1, none⟩ = some (.slice a1 l1.length c1) ∧ w0.cell? ⟨w.heap.size + 1, 0, none⟩ = some (.bool n2) ∧ w0.cell? ⟨w.heap.size + 1, 1, none⟩ = some (.slice a2 l2.length c2) := by rw [hW0]; simp [go_sem]
  clear hW0
  have HS := Lib.hid (show ∀ W, Below w0.heap.size w0 W → W.cell? ⟨w.heap.size, 0, none⟩ = some (.bool n1) ∧ W.cell? ⟨w.heap.size, 1, none⟩ = some (.slice a1 l1.length c1) ∧ W.cell? ⟨w.heap.size + 1, 0, none⟩ = some (.bool n2) ∧ W.cell? ⟨w.heap.size + 1, 1, none⟩ = some (.slice a2 l2.length c2) from fun W h => ⟨bkeep h x0, bkeep h x1, bkeep h y0, bkeep h y1⟩)
  have zx := cell_lt x0
  have zy := cell_lt y0
  have hBc := Below.refl w0.heap.size w0
  have hbeq := bool_beq s
  go_region_held3 (fun W => W.cell? ⟨w.heap.size, 0, none⟩ = some (.bool n1) ∧ W.cell? ⟨w.heap.size, 1, none⟩ = some (.slice a1 l1.length c1) ∧ W.cell? ⟨w.heap.size + 1, 0, none⟩ = some (.bool n2) ∧ W.cell? ⟨w.heap.size + 1, 1, none⟩ = some (.slice a2 l2.length c2))
    (first | (refine HS.out _ ?_; (repeat (first | exact Below.refl _ _ | exact hBc | refine Below.drew ?_ | refine below_drewN ?_ _ | refine bset ?_ (by simp <;> omega) _ | refine bal ?_ _)); done) | fail)
    (first
    | (go_at_call 66; (with_reducible refine (tx.out _ ?_).mono ?_); (refine bthen hB0 ?_; (repeat (first | exact Below.refl _ _ | exact hBc | refine Below.drew ?_ | refine below_drewN ?_ _ | refine bset ?_ (by simp <;> omega) _ | refine bal ?_ _))); rintro e w5 ⟨rfl, hb5⟩; (have hBd : Below w0.heap.size w0 w5 := bthen (by repeat (first | exact Below.refl _ _ | exact hBc | refine Below.drew ?_ | refine below_drewN ?_ _ | refine bset ?_ (by simp <;> omega) _ | refine bal ?_ _)) hb5; clear hBc; have hBc := hBd; clear hBd))
    | (go_at_call 72; (with_reducible refine (ty.out _ ?_).mono ?_); (refine bthen hB0 ?_; (repeat (first | exact Below.refl _ _ | exact hBc | refine Below.drew ?_ | refine below_drewN ?_ _ | refine bset ?_ (by simp <;> omega) _ | refine bal ?_ _))); rintro e w6 ⟨rfl, hb6⟩; (have hBd : Below w0.heap.size w0 w6 := bthen (by repeat (first | exact Below.refl _ _ | exact hBc | refine Below.drew ?_ | refine below_drewN ?_ _ | refine bset ?_ (by simp <;> omega) _ | refine bal ?_ _)) hb6; clear hBc; have hBc := hBd; clear hBd))
    | fail)
  all_goals
    have hB6 := bthen hB0 hBc
    go_wp2
    go_ret
    exact ⟨by simp, by repeat (first | exact Below.refl _ _ | exact hB6 | refine Below.drew ?_ | refine below_drewN ?_ _ | refine bset ?_ (by simp <;> omega) _ | refine bal ?_ _)⟩
set_option maxRecDepth 100000 in
set_option maxHeartbeats 4000000 in
theorem mLine_c (va vb : Value) (l : List Int) (k : Nat) (w : World) (ha : PRow 0 w va l) (hb : RRow 0 w vb l) (bl : ∀ j, Bd k (l.getD j 0)) (hk : k ≤ 1073741824) (hl : l.length ≤ 1099511627775) :
    Calls Tryz.prog 45 #[va, vb] w fun e w' => e = .returned (.bool true) ∧ Below w.heap.size w w' := by
  have HA := Lib.hid ha
  have HBB := Lib.hid hb
  have HBD := Lib.hid bl
  obtain ⟨aa, ca, rfl, -⟩ := ha
  obtain ⟨ab, cb, rfl, -⟩ := hb
  clear bl
  have hB := Below.refl w.heap.size w
  have hnn : ((l.length : Int) != (l.length : Int)) = false := by simp
  go_enter Tryz.func45, Tryz.ntmps45
  go_wp2
  go_loopw [13] (fun x wr => ∃ j : Nat, j ≤ l.length ∧ x = .int .i64 j ∧ Below w.heap.size w wr) (fun x _ => l.length - (intOf x).toNat)
  case atStart => exact ⟨0, Nat.zero_le _, rfl, hB⟩
  case round =>
    obtain ⟨j, hj, rfl, hBr⟩ := hrel
    by_cases hlt : j < l.length
    · have hltI : (j : Int) < (l.length : Int) := by omega
      obtain ⟨a', c', he, -, vr⟩ := HA.out.view
      obtain ⟨rfl, -, rfl⟩ := Value.slice.inj he
      obtain ⟨b', d', he2, -, vs⟩ := HBB.out.view
      obtain ⟨rfl, -, rfl⟩ := Value.slice.inj he2
      obtain ⟨rb, ro, n3, a3, l3, c3, rfl, r0, r1, hi⟩ := vr j hlt
      obtain ⟨sb, so, n4, a4, l4, c4, rfl, s0, s1, hi2⟩ := vs j hlt
      have oc := fun W (h : Below wr.heap.size wr W) => mSame_c _ _ (l.getD j 0) k W (hi.keep (bthen hBr h)) (hi2.keep (bthen hBr h)) (HBD.out j) hk
      have HS := Lib.hid (show ∀ W, Below wr.heap.size wr W → W.cell? ⟨rb, ro + j * 2, none⟩ = some (.bool n3) ∧ W.cell? ⟨rb, ro + j * 2 + 1, none⟩ = some (.slice a3 l3 c3) ∧ W.cell? ⟨sb, so + j * 2, none⟩ = some (.bool n4) ∧ W.cell? ⟨sb, so + j * 2 + 1, none⟩ = some (.slice a4 l4 c4) from fun W h => ⟨bkeep (bthen hBr h) r0, bkeep (bthen hBr h) r1, bkeep (bthen hBr h) s0, bkeep (bthen hBr h) s1⟩)
      have hBc := Below.refl wr.heap.size wr
      obtain ⟨q5, q6, q7, q8⟩ := HS.out wr hBc
      have zz5 := cell_lt q5
      have zz7 := cell_lt q7
      clear hi hi2 r0 r1 s0 s1 vr vs he he2
      go_wp2
      go_region_held3 (fun w' => w'.cell? ⟨rb, ro + j * 2, none⟩ = some (.bool n3) ∧ w'.cell? ⟨rb, ro + j * 2 + 1, none⟩ = some (.slice a3 l3 c3) ∧ w'.cell? ⟨sb, so + j * 2, none⟩ = some (.bool n4) ∧ w'.cell? ⟨sb, so + j * 2 + 1, none⟩ = some (.slice a4 l4 c4))
        (first | (refine HS.out _ ?_; (repeat (first | exact Below.refl _ _ | exact hBc | refine Below.drew ?_ | refine below_drewN ?_ _ | refine bset ?_ (by simp <;> omega) _ | refine bal ?_ _)); done) | fail)
        (first
          | (go_at_call 13; (with_reducible refine (oc _ ?_).mono ?_); (repeat (first | exact Below.refl _ _ | exact hBc | refine Below.drew ?_ | refine below_drewN ?_ _ | refine bset ?_ (by simp <;> omega) _ | refine bal ?_ _)); rintro e w5 ⟨rfl, hb5⟩; (have hBd : Below wr.heap.size wr w5 := bthen (by repeat (first | exact Below.refl _ _ | exact hBc | refine Below.drew ?_ | refine below_drewN ?_ _ | refine bset ?_ (by simp <;> omega) _ | refine bal ?_ _)) hb5; clear hBc; have hBc := hBd; clear hBd))
          | fail)
      all_goals
        have hB5 := bthen hBr hBc
        clear oc q5 q6 q7 q8
        go_wp2
        exact ⟨⟨j + 1, hlt, by go_num, by repeat (first | exact Below.refl _ _ | exact hB5 | refine Below.drew ?_ | refine below_drewN ?_ _ | refine bset ?_ (by simp <;> omega) _ | refine bal ?_ _)⟩, meas hlt (by go_num) rfl⟩
    · obtain rfl : j = l.length := by omega
      go_wp2
      go_ret
      exact ⟨rfl, hBr⟩
set_option maxRecDepth 100000 in
set_option maxHeartbeats 4000000 in
/-- a row of a matrix that is there -/
theorem rowM_c (v : Value) (g : Grid) (i : Nat) (w : World) (hv : IsM 0 w v g) (hi : i < g.length) (hn : g.length ≤ 65536) (hl : (g.getD i []).length ≤ 1099511627775) :
    Calls Tryz.prog 28 #[v, .int .i64 (i : Nat)] w fun e w' => (∃ u, e = .returned (.tuple #[u, .int .i64 0]) ∧ RowO IsInt 36 w.heap.size w' u (g.getD i [])) ∧ Below w.heap.size w w' := by
  have HV := Lib.hid hv
  obtain ⟨a, c, rfl, -⟩ := hv
  obtain ⟨gb, go, ra, rc, rfl, hu, hp⟩ := HV.out.rowAt hi
  have HP := Lib.hid hp
  obtain ⟨n, hnE⟩ : ∃ n, g.length = n := ⟨_, rfl⟩
  rw [hnE] at hi hn HV ⊢
  obtain ⟨row, hrow⟩ : ∃ r, g.getD i [] = r := ⟨_, rfl⟩
  rw [hrow] at hu HP hl ⊢
  have rc1 := fun V => rowsM_c (some ⟨gb, go, none⟩) n c V
  have kc := fun W (q : Below w.heap.size w W) => cloneRow_c 0 (.slice ra row.length rc) row W (HP.out.keep lims_int q) (by omega)
  have h1 : ¬ ((i : Int) < 0) := by omega
  have h2 : ¬ ((n : Int) ≤ (i : Int)) := by omega
  have h3 : (i : Int) < (n : Int) := by omega
  have zu := cell_lt hu
  clear hnE hrow hp HV
  have hB := Below.refl w.heap.size w
  go_enter Tryz.func28, Tryz.ntmps28
  go_wp2_with fail
  refine (rc1 _).mono ?_
  rintro e w1 ⟨rfl, hb1⟩
  have m0 : w1.cell? ⟨w.heap.size, 0, none⟩ = some (.slice (some ⟨gb, go, none⟩) n c) := bkc hb1
  have zm0 := cell_lt m0
  have hu : w1.cell? ⟨gb, go + i, none⟩ = some (.slice ra row.length rc) := bkc hb1
  have zhu := cell_lt hu
  have hB : Below w.heap.size w w1 := bthen (by repeat (first | exact Below.refl _ _ | exact hB | refine Below.drew ?_ | refine below_drewN ?_ _ | refine bset ?_ (by simp <;> omega) _ | refine bal ?_ _)) hb1
  have hz : w.heap.size ≤ w1.heap.size := hB.size
  go_wp2_with fail
  refine (kc _ (by repeat (first | exact Below.refl _ _ | exact hB | refine Below.drew ?_ | refine below_drewN ?_ _ | refine bset ?_ (by simp <;> omega) _ | refine bal ?_ _))).mono ?_
  rintro e w2 ⟨⟨v2, rfl, hv2⟩, hb2⟩
  have hB2 : Below w.heap.size w w2 := bthen (by repeat (first | exact Below.refl _ _ | exact hB | refine Below.drew ?_ | refine below_drewN ?_ _ | refine bset ?_ (by simp <;> omega) _ | refine bal ?_ _)) hb2
  have HV2 := Lib.hid (hv2.rebase (show w.heap.size ≤ _ from (show Below w.heap.size w _ by repeat (first | exact Below.refl _ _ | exact hB | refine Below.drew ?_ | refine below_drewN ?_ _ | refine bset ?_ (by simp <;> omega) _ | refine bal ?_ _)).size))
  obtain ⟨a2, c2, rfl⟩ := hv2.ex
  clear rc1 kc hv2
  go_wp2
  refine bodyPost_ret (v := .tuple #[.slice a2 row.length c2, .int .i64 0]) (by simp [results, Tryz.results28, go_sem, *]) rfl ⟨⟨_, rfl, HV2.out⟩, hB2⟩
theorem prs_rrow : Prs (fun t => t = 133 ∨ t = 43) (RRow 0) := prs_row lims_ref _ _
theorem IsL.rrow {w : World} {v : Value} {g : Grid} (h : IsL 33 (RRow 0) 0 w v g) {i : Nat} (hi : i < g.length) :
    ∃ c gb go ra rc, v = .slice (some ⟨gb, go, none⟩) g.length c ∧ w.cell? ⟨gb, go + i, none⟩ = some (.slice ra (g.getD i []).length rc) ∧ RRow 0 w (.slice ra (g.getD i []).length rc) (g.getD i []) := by
  obtain ⟨a, c, e, _, hv⟩ := h.view
  obtain ⟨gb, go, u, rfl, hu, hr⟩ := hv i hi
  have e2 : g[i] = g.getD i [] := by simp [hi]
  rw [e2] at hr
  have hr2 := hr
  obtain ⟨ra, rc, rfl, _⟩ := hr2
  exact ⟨c, gb, go, ra, rc, e, hu, hr⟩
set_option maxRecDepth 100000 in
set_option maxHeartbeats 1000000 in
theorem rcols_c (v : Value) (g : Grid) (w : World) (h : IsL 33 (RRow 0) 0 w v g) : Calls Tryz.prog 71 #[v] w fun e w' => e = .returned (.int .i64 (cols g : Nat)) ∧ Below w.heap.size w w' := by
  have hB := Below.refl w.heap.size w
  obtain ⟨a, c, rfl, -⟩ : ∃ a c, v = .slice a g.length c ∧ True := by obtain ⟨a, c, e, _⟩ := h.view; exact ⟨a, c, e, trivial⟩
  by_cases h0 : g.length = 0
  · have hg : g = [] := List.length_eq_zero_iff.1 h0
    subst hg
    rw [show cols [] = 0 from rfl, show ([] : Grid).length = 0 from rfl]
    clear h h0
    go_enter Tryz.func71, Tryz.ntmps71
    go_wp2
    go_ret
    exact ⟨rfl, by repeat (first | exact Below.refl _ _ | exact hB | refine Below.drew ?_ | refine below_drewN ?_ _ | refine bset ?_ (by simp <;> omega) _ | refine bal ?_ _)⟩
  · obtain ⟨c', gb, go, ra, rc, e, hu, hp⟩ := h.rrow (show 0 < g.length by omega)
    obtain ⟨rfl, -, rfl⟩ := Value.slice.inj e
    rw [Nat.add_zero] at hu
    have zu := cell_lt hu
    unfold cols
    obtain ⟨m, hm⟩ : ∃ m, (g.getD 0 []).length = m := ⟨_, rfl⟩
    obtain ⟨n, hn⟩ : ∃ n, g.length = n := ⟨_, rfl⟩
    rw [hm] at hu ⊢
    rw [hn] at h0 ⊢
    have hn0 : ((n : Int) == 0) = false := by simp; omega
    have hn1 : (0 : Int) < (n : Int) := by omega
    clear h hp e hm hn
    go_enter Tryz.func71, Tryz.ntmps71
    go_wp2
    go_ret
    exact ⟨rfl, by repeat (first | exact Below.refl _ _ | exact hB | refine Below.drew ?_ | refine below_drewN ?_ _ | refine bset ?_ (by simp <;> omega) _ | refine bal ?_ _)⟩
end Go.Proofs.YthaohpfbengabaaGreatDoor

/- matrix's laws: rows, made. -/
namespace Go.Proofs.YthaohpfbengabaaGreatDoor
open Num
open Go.ChangeShapes Go.WideShapes Go.ChangeAt Go.RowKit
set_option linter.unusedVariables false
set_option linter.unusedSimpArgs false
attribute [local go_sem ↓] Go.wp_at_zero Go.wp_at_succ
set_option maxRecDepth 100000 in
set_option maxHeartbeats 4000000 in
theorem rows5_c (v : Value) (g : Grid) (w : World) (hv : GridI w v g) (hg : g.length ≤ 1048576) (hl : ∀ k, k < g.length → (g.getD k []).length ≤ 1048576) :
    Calls Tryz.prog 21 #[v] w fun e w' => (∃ u, e = .returned u ∧ OwnL 59 (RowO IsInt 36 w.heap.size) w w' u g) ∧ Below w.heap.size w w' := by
  obtain ⟨ga, gc, rfl, hv⟩ := hv
  have HV := Lib.hid hv
  have HL := Lib.hid hl
  clear hv hl
  have hB := Below.refl w.heap.size w
  go_enter Tryz.func21, Tryz.ntmps21
  go_wp2
  go_loopw [3, 8] (fun v x wr => ∃ k : Nat, k ≤ g.length ∧ x = .int .i64 k ∧ Hid (OwnL 59 (RowO IsInt 36 w.heap.size) w wr v (g.take k))) (fun _ x _ => g.length - (intOf x).toNat)
  case atStart => exact ⟨0, Nat.zero_le _, rfl, Lib.hid (OwnL.nil _ _ hB)⟩
  case round =>
    obtain ⟨k, hk, rfl, hO⟩ := hrel
    have hBr := hO.out.bel
    have hlen : (g.take k).length = k := by rw [List.length_take]; omega
    have HLEN := Lib.hid hlen
    obtain ⟨va, vc, hvv⟩ := hO.out.ex
    rw [hlen] at hvv
    subst hvv
    clear hlen
    by_cases hlt : k < g.length
    · have hltI : (k : Int) < (g.length : Int) := by omega
      obtain ⟨gb, go, u, rfl, hu, hrow⟩ := HV.out k hlt
      have hr2 := hrow.keep hBr
      obtain ⟨ra, rc, rfl, -⟩ := hrow
      have hl3 := HL.out k hlt
      have HT := Lib.hid (take_getD [] hlt)
      have hu2 := bkeep hBr hu
      obtain ⟨l, hle⟩ : ∃ l, g.getD k [] = l := ⟨_, rfl⟩
      rw [hle] at hr2 hu2 hl3 HT
      have zu := cell_lt hu2
      have lc := fun W (q : Below wr.heap.size wr W) => list_c (.slice ra l.length rc) l W (hr2.keep q) (by omega)
      have LC := Lib.hid lc
      have hLL : ((g.take k).length + 1) * 24 ≤ 140737488355328 := by rw [HLEN.out]; omega
      have hLM : (g.take k).length + 1 ≤ maxLen := by rw [HLEN.out]; unfold maxLen; omega
      have hBw := Below.refl wr.heap.size wr
      clear hu hr2 hle lc
      go_wp2_with fail
      (with_reducible refine (LC.out _ ?_).mono ?_); (repeat (first | exact Below.refl _ _ | exact hBw | refine Below.drew ?_ | refine below_drewN ?_ _ | refine bset ?_ (by simp <;> omega) _ | refine bal ?_ _))
      rintro e w5 ⟨⟨v5, rfl, hr5⟩, hb5⟩
      have hb5' : Below wr.heap.size wr w5 := bthen (by repeat (first | exact Below.refl _ _ | exact hBw | refine Below.drew ?_ | refine below_drewN ?_ _ | refine bset ?_ (by simp <;> omega) _ | refine bal ?_ _)) hb5
      have HR5 := Lib.hid (show RowO IsInt 36 w.heap.size w5 v5 l from hr5.rebase (show w.heap.size ≤ _ from Nat.le_trans hBr.size (show Below wr.heap.size wr _ by repeat (first | exact Below.refl _ _ | exact hBw | refine Below.drew ?_ | refine below_drewN ?_ _ | refine bset ?_ (by simp <;> omega) _ | refine bal ?_ _)).size))
      have HO5 := Lib.hid (hO.out.below (prs_rowO lims_int _ _) hb5')
      obtain ⟨a5, c5, rfl⟩ := hr5.ex
      clear LC hr5 hb5 hO
      go_wp2_with (at_builtin; refine appL elRow (prs_rowO lims_int _ _) (by decide) (by rfl) (by rfl) (HO5.out.below (prs_rowO lims_int _ _) (bal (Below.refl _ _) _)) (HR5.out.keep lims_int (bal (Below.refl _ _) _)) (by rfl) (by rfl) (cell_new (by simp) rfl) hLL hLM ?_)
      intro v' w8 hO8 hk8
      have HO8 := Lib.hid hO8
      rw [← HT.out] at HO8
      clear hO8 hk8
      go_wp2
      exact ⟨⟨k + 1, hlt, by go_num, HO8⟩, meas hlt (by go_num) rfl⟩
    · obtain rfl : k = g.length := by omega
      rw [List.take_length] at hO
      go_wp2
      go_ret
      exact ⟨⟨_, rfl, hO.out⟩, hBr⟩
end Go.Proofs.YthaohpfbengabaaGreatDoor

/- matrix's laws: is, comes. -/
namespace Go.Proofs.YthaohpfbengabaaGreatDoor
open Num
open Go.ChangeShapes Go.WideShapes Go.ChangeAt Go.RowKit
set_option linter.unusedVariables false
set_option linter.unusedSimpArgs false
attribute [local go_sem ↓] Go.wp_at_zero Go.wp_at_succ
/-- the reference's matrix -/
def RefM (w : World) (v : Value) (g : Grid) : Prop := IsL 33 (RRow 0) 0 w v g
theorem RefM.keep {w w' : World} {v : Value} {g : Grid} (h : RefM w v g) (k : Below w.heap.size w w') : RefM w' v g := IsL.keep prs_rrow h k
theorem RefM.nil (w : World) : RefM w (.slice none 0 0) [] := IsL.nil _ _ _ _
set_option maxRecDepth 100000 in
set_option maxHeartbeats 8000000 in
theorem mIs_c (vm vr : Value) (g : Grid) (k : Nat) (w : World) (hm : IsM 0 w vm g) (hr : RefM w vr g) (rg : Rct g (cols g)) (hn : g.length ≤ 65536) (hc : cols g ≤ 65536) (hb : BdM k g) (hk : k ≤ 1073741824) :
    Calls Tryz.prog 29 #[vm, vr] w fun e w' => e = .returned (.bool true) ∧ Below w.heap.size w w' := by
  have HM := Lib.hid hm
  have HR := Lib.hid hr
  have HRG := Lib.hid rg
  have HBD := Lib.hid hb
  obtain ⟨a, c, rfl, -⟩ := hm
  obtain ⟨ra, rc, rfl, -⟩ : ∃ a c, vr = .slice a g.length c ∧ True := by obtain ⟨a, c, e, _⟩ := (show IsL _ _ _ _ _ _ from hr).view; exact ⟨a, c, e, trivial⟩
  have ROC := Lib.hid (fun V => rowsM_c a g.length c V)
  have COC := Lib.hid (fun V (q : Below w.heap.size w V) => (show Calls Tryz.prog 61 #[.agg #[.slice a g.length c]] V fun e w' => e = .returned (.int .i64 (cols g : Nat)) ∧ Below V.heap.size V w' from by
    obtain ⟨a', c', e, hl⟩ := HM.out.keep q
    cases e
    exact colsM_c _ _ g V hl))
  have RCC := Lib.hid (fun V (q : Below w.heap.size w V) => rcols_c (.slice ra g.length rc) g V (HR.out.keep q))
  have RWC := Lib.hid (fun V i (q : Below w.heap.size w V) (hi : i < g.length) => rowM_c (.agg #[.slice a g.length c]) g i V (HM.out.keep q) hi hn (by rw [HRG.out i hi]; omega))
  clear hr rg hb
  obtain ⟨n, hnE⟩ : ∃ n, g.length = n := ⟨_, rfl⟩
  have HN := Lib.hid hnE
  rw [hnE] at ROC COC RCC RWC hn ⊢
  obtain ⟨m, hmE⟩ : ∃ m, cols g = m := ⟨_, rfl⟩
  rw [hmE] at COC RCC hc
  have HMC := Lib.hid hmE
  clear hnE hmE
  have hnn : ((n : Int) != (n : Int)) = false := by simp
  have hmm : ((m : Int) != (m : Int)) = false := by simp
  have hB := Below.refl w.heap.size w
  go_enter Tryz.func29, Tryz.ntmps29
  go_wp2_with fail
  (with_reducible refine (ROC.out _).mono ?_)
  rintro e w1 ⟨rfl, hb1⟩
  have m0 : w1.cell? ⟨w.heap.size, 0, none⟩ = some (.slice a n c) := bkc hb1
  have zm0 := cell_lt m0
  have hB : Below w.heap.size w w1 := bthen (by repeat (first | exact Below.refl _ _ | exact hB | refine Below.drew ?_ | refine below_drewN ?_ _ | refine bset ?_ (by simp <;> omega) _ | refine bal ?_ _)) hb1
  have hz : w.heap.size ≤ w1.heap.size := hB.size
  go_wp2_with fail
  (with_reducible refine (COC.out _ ?_).mono ?_); (repeat (first | exact Below.refl _ _ | exact hB | refine Below.drew ?_ | refine below_drewN ?_ _ | refine bset ?_ (by simp <;> omega) _ | refine bal ?_ _))
  rintro e w2 ⟨rfl, hb2⟩
  have m0 : w2.cell? ⟨w.heap.size, 0, none⟩ = some (.slice a n c) := bkc hb2
  have zm0 := cell_lt m0
  have hB : Below w.heap.size w w2 := bthen (by repeat (first | exact Below.refl _ _ | exact hB | refine Below.drew ?_ | refine below_drewN ?_ _ | refine bset ?_ (by simp <;> omega) _ | refine bal ?_ _)) hb2
  have hz : w.heap.size ≤ w2.heap.size := hB.size
  go_wp2_with fail
  (with_reducible refine (RCC.out _ ?_).mono ?_); (repeat (first | exact Below.refl _ _ | exact hB | refine Below.drew ?_ | refine below_drewN ?_ _ | refine bset ?_ (by simp <;> omega) _ | refine bal ?_ _))
  rintro e w3 ⟨rfl, hb3⟩
  have m0 : w3.cell? ⟨w.heap.size, 0, none⟩ = some (.slice a n c) := bkc hb3
  have zm0 := cell_lt m0
  have hB : Below w.heap.size w w3 := bthen (by repeat (first | exact Below.refl _ _ | exact hB | refine Below.drew ?_ | refine below_drewN ?_ _ | refine bset ?_ (by simp <;> omega) _ | refine bal ?_ _)) hb3
  have hz : w.heap.size ≤ w3.heap.size := hB.size
  clear ROC COC RCC hb1 hb2 hb3
  have hB3 := Below.refl w3.heap.size w3
  go_wp2
  go_loopw [22] (fun x wr => ∃ i : Nat, i ≤ n ∧ x = .int .i64 i ∧ Below w3.heap.size w3 wr) (fun x _ => n - (intOf x).toNat)
  case atStart => exact ⟨0, Nat.zero_le _, rfl, hB3⟩
  case round =>
    obtain ⟨i, hi, rfl, hBr⟩ := hrel
    have hBw := bthen hB hBr
    have m0r := bkeep hBr m0
    have zmr := cell_lt m0r
    by_cases hlt : i < n
    · have hltI : (i : Int) < (n : Int) := by omega
      have hig : i < g.length := by rw [HN.out]; exact hlt
      have hrw := fun V (q : Below wr.heap.size wr V) => RWC.out V i (bthen hBw q) hlt
      have hbr := Below.refl wr.heap.size wr
      go_wp2_with fail
      (with_reducible refine (hrw _ ?_).mono ?_); (repeat (first | exact Below.refl _ _ | exact hbr | refine Below.drew ?_ | refine below_drewN ?_ _ | refine bset ?_ (by simp <;> omega) _ | refine bal ?_ _))
      rintro e w4 ⟨⟨u4, rfl, hu4⟩, hb4⟩
      have hb4' : Below wr.heap.size wr w4 := bthen (by repeat (first | exact Below.refl _ _ | exact hbr | refine Below.drew ?_ | refine below_drewN ?_ _ | refine bset ?_ (by simp <;> omega) _ | refine bal ?_ _)) hb4
      have hBw4 := bthen hBw hb4'
      obtain ⟨c2, gb, go, xa, xc, e2, hu, hp⟩ := IsL.rrow (HR.out.keep hBw4) hig
      obtain ⟨rfl, -, rfl⟩ := Value.slice.inj e2
      have hrl := HRG.out i hig
      rw [HMC.out] at hrl
      have hbj : ∀ t, Bd k ((g.getD i []).getD t 0) := fun t => HBD.out i t
      obtain ⟨row, hrow⟩ : ∃ r, g.getD i [] = r := ⟨_, rfl⟩
      rw [hrow] at hu hp hrl hbj hu4
      have lc := fun V (q : Below w4.heap.size w4 V) => mLine_c u4 (.slice xa row.length xc) row k V ((hu4.row.rebase (Nat.zero_le _)).keep lims_int q) (hp.keep lims_ref q) hbj hk (by omega)
      have LC := Lib.hid lc
      obtain ⟨ua, uc, rfl⟩ := hu4.ex
      have zu := cell_lt hu
      have hbr4 := Below.refl w4.heap.size w4
      have hBr4 := bthen hBr hb4'
      clear lc hp hu4 e2 hrow hrl hbj hb4 hrw
      go_wp2_with fail
      (with_reducible refine (LC.out _ ?_).mono ?_); (repeat (first | exact Below.refl _ _ | exact hbr4 | refine Below.drew ?_ | refine below_drewN ?_ _ | refine bset ?_ (by simp <;> omega) _ | refine bal ?_ _))
      rintro e w5 ⟨rfl, hb5⟩
      have hBr5 := bthen hBr4 (bthen (show Below w4.heap.size w4 _ by repeat (first | exact Below.refl _ _ | exact hbr4 | refine Below.drew ?_ | refine below_drewN ?_ _ | refine bset ?_ (by simp <;> omega) _ | refine bal ?_ _)) hb5)
      clear LC hu zu
      go_wp2
      exact ⟨⟨i + 1, hlt, by go_num, hBr5⟩, meas hlt (by go_num) rfl⟩
    · obtain rfl : i = n := by omega
      have hltI : ¬ (i : Int) < (i : Int) := by omega
      go_wp2
      go_ret
      exact ⟨rfl, hBw⟩
set_option maxRecDepth 100000 in
set_option maxHeartbeats 4000000 in
/-- that came -/
theorem mComes_yes (vm vr : Value) (g : Grid) (k : Nat) (w : World) (hm : IsM 0 w vm g) (hr : RefM w vr g) (rg : Rct g (cols g)) (hn : g.length ≤ 65536) (hc : cols g ≤ 65536) (hb : BdM k g) (hk : k ≤ 1073741824) :
    Calls Tryz.prog 26 #[vm, .int .i64 0, vr, .int .i64 0] w fun e w' => e = .returned (.bool true) ∧ Below w.heap.size w w' := by
  have IC := Lib.hid (fun V (q : Below w.heap.size w V) => mIs_c vm vr g k V (hm.keep q) (hr.keep q) rg hn hc hb hk)
  obtain ⟨a, c, rfl, -⟩ := hm
  obtain ⟨ra, rc, rfl, -⟩ : ∃ a c, vr = .slice a g.length c ∧ True := by obtain ⟨a, c, e, _⟩ := (show IsL _ _ _ _ _ _ from hr).view; exact ⟨a, c, e, trivial⟩
  clear hr rg hb
  have hB := Below.refl w.heap.size w
  go_enter Tryz.func26, Tryz.ntmps26
  go_wp2_with fail
  (with_reducible refine (IC.out _ ?_).mono ?_); (repeat (first | exact Below.refl _ _ | exact hB | refine Below.drew ?_ | refine below_drewN ?_ _ | refine bset ?_ (by simp <;> omega) _ | refine bal ?_ _))
  rintro e w1 ⟨rfl, hb1⟩
  have hB1 : Below w.heap.size w w1 := bthen (by repeat (first | exact Below.refl _ _ | exact hB | refine Below.drew ?_ | refine below_drewN ?_ _ | refine bset ?_ (by simp <;> omega) _ | refine bal ?_ _)) hb1
  clear IC
  go_wp2
  go_ret
  exact ⟨rfl, hB1⟩
set_option maxRecDepth 100000 in
set_option maxHeartbeats 4000000 in
/-- just that error, and none -/
theorem mComes_no (no : Int) (vr : Value) (w : World) (h0 : no ≠ 0) (hvr : ∃ a n c, vr = .slice a n c) :
    Calls Tryz.prog 26 #[.agg #[.slice none 0 0], .int .i64 no, vr, .int .i64 no] w fun e w' => e = .returned (.bool true) ∧ Below w.heap.size w w' := by
  have IC := Lib.hid (fun V => mIs_c (.agg #[.slice none 0 0]) (.slice none 0 0) [] 1 V (IsM.nil _ _) (RefM.nil _) (fun i hi => by simp at hi) (by decide) (by decide) (bdM_of (by simp)) (by decide))
  obtain ⟨a, n, c, rfl⟩ := hvr
  have hne : (no != 0) = true := by simpa using h0
  have hB := Below.refl w.heap.size w
  clear h0
  go_enter Tryz.func26, Tryz.ntmps26
  go_wp2_with fail
  (with_reducible refine (IC.out _).mono ?_)
  rintro e w1 ⟨rfl, hb1⟩
  have hB1 : Below w.heap.size w w1 := bthen (by repeat (first | exact Below.refl _ _ | exact hB | refine Below.drew ?_ | refine below_drewN ?_ _ | refine bset ?_ (by simp <;> omega) _ | refine bal ?_ _)) hb1
  clear IC
  go_wp2
  go_ret
  exact ⟨rfl, hB1⟩
end Go.Proofs.YthaohpfbengabaaGreatDoor

/- the reference's identity. -/
namespace Go.Proofs.YthaohpfbengabaaGreatDoor
open Num
open Go.ChangeShapes Go.WideShapes Go.ChangeAt Go.RowKit
set_option linter.unusedVariables false
set_option linter.unusedSimpArgs false
attribute [local go_sem ↓] Go.wp_at_zero Go.wp_at_succ
theorem infoRRow5 : (Tryz.prog.info? 33).map (fun i => (i.zero, i.size, i.bytes)) = some (some (.slice none 0 0), 1, 24) := by kernel_rfl
theorem elMat : Elt Tryz.prog 29 33 1 24 := Elt.mk' Tryz.underlying29 infoRRow5 rfl (by decide) (by decide)
end Go.Proofs.YthaohpfbengabaaGreatDoor

/- matrix's laws: the numbers that come in, as the reference's; Fits; both. -/
namespace Go.Proofs.YthaohpfbengabaaGreatDoor
open Num
open Go.ChangeShapes Go.WideShapes Go.ChangeAt Go.RowKit
set_option linter.unusedVariables false
set_option linter.unusedSimpArgs false
attribute [local go_sem ↓] Go.wp_at_zero Go.wp_at_succ
theorem elRw5 : Elt Tryz.prog 33 43 2 32 := Elt.mk' Tryz.underlying33 infoRef rfl (by decide) (by decide)
set_option maxRecDepth 100000 in
set_option maxHeartbeats 4000000 in
theorem ref5_c (v : Value) (l : List Int) (w : World) (hv : RowI w v l) (hl : l.length ≤ 1099511627000) :
    Calls Tryz.prog 47 #[v] w fun e w' => (∃ v', e = .returned v' ∧ RowO IsRef 43 w.heap.size w' v' l) ∧ Below w.heap.size w w' := by
  obtain ⟨ra, rc, rfl, hr⟩ := hv
  have HR := Lib.hid hr
  clear hr
  have hB := Below.refl w.heap.size w
  go_enter Tryz.func47, Tryz.ntmps47
  go_wp2
  go_loopw [3, 8] (fun v x wr => ∃ j : Nat, j ≤ l.length ∧ x = .int .i64 j ∧ Hid (OwnF IsRef 43 w wr v j (fun i => l.getD i 0))) (fun _ x _ => l.length - (intOf x).toNat)
  case atStart => exact ⟨0, Nat.zero_le _, rfl, Lib.hid (OwnF.nil _ _ _ hB)⟩
  case round =>
    obtain ⟨j, hj, rfl, hF⟩ := hrel
    obtain ⟨fa, fc, hfv⟩ : ∃ a c, _ = Value.slice a j c := by obtain ⟨a, c, h, _⟩ := hF.out.view; exact ⟨a, c, h⟩
    subst hfv
    by_cases hlt2 : j < l.length
    · have hltJ : (j : Int) < (l.length : Int) := by omega
      obtain ⟨rb, ro, rfl, hc, hI⟩ := HR.out j hlt2
      have hc2 := bkeep hF.out.bel hc
      have zc := cell_lt hc2
      have oc := fun W => rof_c (l.getD j 0) W hI.1 hI.2
      have HSN := Lib.hid (snoc_fun l j hlt2)
      obtain ⟨z, hz⟩ : ∃ z, l.getD j 0 = z := ⟨_, rfl⟩
      rw [hz] at hc2 oc HSN
      clear hc hI hz
      go_wp2_with fail
      refine (oc _).mono ?_
      rintro e w5 ⟨⟨v5, rfl, hi5⟩, hb5⟩
      have HF5 := Lib.hid (hF.out.below lims_ref hb5)
      have HI5 := Lib.hid hi5
      obtain ⟨n5, a5, c5, l5, rfl, -⟩ := hi5
      unfold iv at *
      clear oc
      go_wp2_with (at_builtin; refine app_num elRw5 (by decide) lims_ref (by rfl) (by rfl) HF5.out HI5.out (by rfl) (by rfl) (by omega) ?_)
      intro v' w8 hF8 _ _
      have HF8 := Lib.hid (hF8.congr' HSN.out)
      clear hF8
      go_wp2
      exact ⟨⟨j + 1, hlt2, by go_num, HF8⟩, meas hlt2 (by go_num) rfl⟩
    · obtain rfl : j = l.length := by omega
      have HRO := Lib.hid hF.out.rowO
      have hBr := hF.out.bel
      go_wp2
      go_ret
      exact ⟨⟨_, rfl, HRO.out⟩, hBr⟩
set_option maxRecDepth 100000 in
set_option maxHeartbeats 4000000 in
theorem grid5_c (v : Value) (g : Grid) (w : World) (hv : GridI w v g) (hg : g.length ≤ 1048576) (hl : ∀ k, k < g.length → (g.getD k []).length ≤ 1048576) :
    Calls Tryz.prog 23 #[v] w fun e w' => (∃ u, e = .returned u ∧ OwnL 33 (RowO IsRef 43 w.heap.size) w w' u g) ∧ Below w.heap.size w w' := by
  obtain ⟨ga, gc, rfl, hv⟩ := hv
  have HV := Lib.hid hv
  have HL := Lib.hid hl
  clear hv hl
  have hB := Below.refl w.heap.size w
  go_enter Tryz.func23, Tryz.ntmps23
  go_wp2
  go_loopw [3, 8] (fun v x wr => ∃ k : Nat, k ≤ g.length ∧ x = .int .i64 k ∧ Hid (OwnL 33 (RowO IsRef 43 w.heap.size) w wr v (g.take k))) (fun _ x _ => g.length - (intOf x).toNat)
  case atStart => exact ⟨0, Nat.zero_le _, rfl, Lib.hid (OwnL.nil _ _ hB)⟩
  case round =>
    obtain ⟨k, hk, rfl, hO⟩ := hrel
    have hBr := hO.out.bel
    have hlen : (g.take k).length = k := by rw [List.length_take]; omega
    have HLEN := Lib.hid hlen
    obtain ⟨va, vc, hvv⟩ := hO.out.ex
    rw [hlen] at hvv
    subst hvv
    clear hlen
    by_cases hlt : k < g.length
    · have hltI : (k : Int) < (g.length : Int) := by omega
      obtain ⟨gb, go, u, rfl, hu, hrow⟩ := HV.out k hlt
      have hr2 := hrow.keep hBr
      obtain ⟨ra, rc, rfl, -⟩ := hrow
      have hl3 := HL.out k hlt
      have HT := Lib.hid (take_getD [] hlt)
      have hu2 := bkeep hBr hu
      obtain ⟨l, hle⟩ : ∃ l, g.getD k [] = l := ⟨_, rfl⟩
      rw [hle] at hr2 hu2 hl3 HT
      have zu := cell_lt hu2
      have lc := fun W (q : Below wr.heap.size wr W) => ref5_c (.slice ra l.length rc) l W (hr2.keep q) (by omega)
      have LC := Lib.hid lc
      have hLL : ((g.take k).length + 1) * 24 ≤ 140737488355328 := by rw [HLEN.out]; omega
      have hLM : (g.take k).length + 1 ≤ maxLen := by rw [HLEN.out]; unfold maxLen; omega
      have hBw := Below.refl wr.heap.size wr
      clear hu hr2 hle lc
      go_wp2_with fail
      (with_reducible refine (LC.out _ ?_).mono ?_); (repeat (first | exact Below.refl _ _ | exact hBw | refine Below.drew ?_ | refine below_drewN ?_ _ | refine bset ?_ (by simp <;> omega) _ | refine bal ?_ _))
      rintro e w5 ⟨⟨v5, rfl, hr5⟩, hb5⟩
      have hb5' : Below wr.heap.size wr w5 := bthen (by repeat (first | exact Below.refl _ _ | exact hBw | refine Below.drew ?_ | refine below_drewN ?_ _ | refine bset ?_ (by simp <;> omega) _ | refine bal ?_ _)) hb5
      have HR5 := Lib.hid (show RowO IsRef 43 w.heap.size w5 v5 l from hr5.rebase (show w.heap.size ≤ _ from Nat.le_trans hBr.size (show Below wr.heap.size wr _ by repeat (first | exact Below.refl _ _ | exact hBw | refine Below.drew ?_ | refine below_drewN ?_ _ | refine bset ?_ (by simp <;> omega) _ | refine bal ?_ _)).size))
      have HO5 := Lib.hid (hO.out.below (prs_rowO lims_ref _ _) hb5')
      obtain ⟨a5, c5, rfl⟩ := hr5.ex
      clear LC hr5 hb5 hO
      go_wp2_with (at_builtin; refine appL elMat (prs_rowO lims_ref _ _) (by decide) (by rfl) (by rfl) (HO5.out.below (prs_rowO lims_ref _ _) (bal (Below.refl _ _) _)) (HR5.out.keep lims_ref (bal (Below.refl _ _) _)) (by rfl) (by rfl) (cell_new (by simp) rfl) hLL hLM ?_)
      intro v' w8 hO8 hk8
      have HO8 := Lib.hid hO8
      rw [← HT.out] at HO8
      clear hO8 hk8
      go_wp2
      exact ⟨⟨k + 1, hlt, by go_num, HO8⟩, meas hlt (by go_num) rfl⟩
    · obtain rfl : k = g.length := by omega
      rw [List.take_length] at hO
      go_wp2
      go_ret
      exact ⟨⟨_, rfl, hO.out⟩, hBr⟩
theorem gridRef {w0 w : World} {v : Value} {g : Grid} {base : Nat} (h : OwnL 33 (RowO IsRef 43 base) w0 w v g) : RefM w v g :=
  (h.isL.mono fun u x h => h.row.rebase (Nat.zero_le _)).rebase (Nat.zero_le _)
end Go.Proofs.YthaohpfbengabaaGreatDoor

/- the reference's Fits; both. -/
namespace Go.Proofs.YthaohpfbengabaaGreatDoor
open Num
open Go.ChangeShapes Go.WideShapes Go.ChangeAt Go.RowKit
set_option linter.unusedVariables false
set_option linter.unusedSimpArgs false
attribute [local go_sem ↓] Go.wp_at_zero Go.wp_at_succ
set_option maxRecDepth 100000 in
set_option maxHeartbeats 8000000 in
theorem rfits_c (v : Value) (g : Grid) (w : World) (hv : RefM w v g) (hg : g.length ≤ 1099511627775) :
    Calls Tryz.prog 24 #[v] w fun e w' => e = .returned (.int .i64 (fitsE g)) ∧ Below w.heap.size w w' := by
  have HV := Lib.hid (show IsL 33 (RRow 0) 0 w v g from hv)
  obtain ⟨ga, gc, rfl, -⟩ : ∃ a c, v = .slice a g.length c ∧ True := by obtain ⟨a, c, e, _⟩ := HV.out.view; exact ⟨a, c, e, trivial⟩
  clear hv
  have hB := Below.refl w.heap.size w
  by_cases h0 : g.length = 0
  · have hE : fitsE g = 2 := by unfold fitsE; rw [if_pos (.inl h0)]
    rw [hE, h0]
    clear hE h0 HV hg
    go_enter Tryz.func24, Tryz.ntmps24
    go_wp2
    go_ret
    exact ⟨rfl, by repeat (first | exact Below.refl _ _ | exact hB | refine Below.drew ?_ | refine below_drewN ?_ _ | refine bset ?_ (by simp <;> omega) _ | refine bal ?_ _)⟩
  · obtain ⟨c', gb, go, ra, rc, e, hu, -⟩ := IsL.rrow HV.out (show 0 < g.length by omega)
    obtain ⟨rfl, -, rfl⟩ := Value.slice.inj e
    rw [Nat.add_zero] at hu
    have zu := cell_lt hu
    have HM := Lib.hid (show cols g = (g.getD 0 []).length from rfl)
    obtain ⟨m, hm⟩ : ∃ m, (g.getD 0 []).length = m := ⟨_, rfl⟩
    rw [hm] at hu HM
    obtain ⟨n, hn⟩ : ∃ n, g.length = n := ⟨_, rfl⟩
    have HN := Lib.hid hn
    rw [hn] at h0 hg ⊢
    have hn0 : ((n : Int) == 0) = false := by simp; omega
    have hn1 : (0 : Int) < (n : Int) := by omega
    obtain ⟨F, hF⟩ : ∃ F, fitsE g = F := ⟨_, rfl⟩
    have HF := Lib.hid hF
    rw [hF]
    clear e hm hn hF
    by_cases h1 : m = 0
    · have hm0 : ((m : Int) == 0) = true := by simp [h1]
      have hE : F = 2 := by rw [← HF.out]; unfold fitsE; rw [if_pos (.inr (by rw [HM.out]; exact h1))]
      rw [hE]
      clear h1 hE h0
      go_enter Tryz.func24, Tryz.ntmps24
      go_wp2
      go_ret
      exact ⟨rfl, by repeat (first | exact Below.refl _ _ | exact hB | refine Below.drew ?_ | refine below_drewN ?_ _ | refine bset ?_ (by simp <;> omega) _ | refine bal ?_ _)⟩
    · have hm0 : ((m : Int) == 0) = false := by simp; omega
      have hne : ¬ (g.length = 0 ∨ cols g = 0) := by rw [HM.out, HN.out]; omega
      by_cases h2 : 16 < n
      · have hb1 : (16 : Int) < (n : Int) := by omega
        have hE : F = 3 := by rw [← HF.out]; unfold fitsE; rw [if_neg hne, if_pos (.inl (by rw [HN.out]; exact h2))]
        rw [hE]
        clear h1 hE h0 h2 hne
        go_enter Tryz.func24, Tryz.ntmps24
        go_wp2
        go_ret
        exact ⟨rfl, by repeat (first | exact Below.refl _ _ | exact hB | refine Below.drew ?_ | refine below_drewN ?_ _ | refine bset ?_ (by simp <;> omega) _ | refine bal ?_ _)⟩
      · have hb1 : ¬ (16 : Int) < (n : Int) := by omega
        by_cases h3 : 16 < m
        · have hb2 : (16 : Int) < (m : Int) := by omega
          have hE : F = 3 := by rw [← HF.out]; unfold fitsE; rw [if_neg hne, if_pos (.inr (by rw [HM.out]; exact h3))]
          rw [hE]
          clear h1 hE h0 h2 h3 hne
          go_enter Tryz.func24, Tryz.ntmps24
          go_wp2
          go_ret
          exact ⟨rfl, by repeat (first | exact Below.refl _ _ | exact hB | refine Below.drew ?_ | refine below_drewN ?_ _ | refine bset ?_ (by simp <;> omega) _ | refine bal ?_ _)⟩
        · have hb2 : ¬ (16 : Int) < (m : Int) := by omega
          have HE := Lib.hid (show F = if ∀ i, i < g.length → (g.getD i []).length = m then 0 else 5 from by
            rw [← HF.out]; unfold fitsE; rw [if_neg hne, if_neg (by rw [HM.out, HN.out]; omega), HM.out])
          have hn16 : n ≤ 16 := by omega
          clear hne h0 h1 h2 h3 HF
          go_enter Tryz.func24, Tryz.ntmps24
          go_wp2
          go_loopw [3] (fun x wr => ∃ k : Nat, k ≤ n ∧ x = .int .i64 k ∧ Below w.heap.size w wr ∧ Hid (∀ j, j < k → (g.getD j []).length = m)) (fun x _ => n - (intOf x).toNat)
          case atStart => exact ⟨0, Nat.zero_le _, rfl, hB, Lib.hid (fun j hj => by omega)⟩
          case round =>
            obtain ⟨k, hk, rfl, hBr, hall⟩ := hrel
            by_cases hlt : k < n
            · have hltI : (k : Int) < (n : Int) := by omega
              obtain ⟨c2, gb2, go2, ra2, rc2, e2, hu2, -⟩ := IsL.rrow HV.out (i := k) (by rw [HN.out]; exact hlt)
              obtain ⟨⟨rfl, rfl⟩, -, rfl⟩ : (gb = gb2 ∧ go = go2) ∧ True ∧ gc = c2 := by
                have h := Value.slice.inj e2
                simp at h
                exact ⟨h.1, trivial, h.2⟩
              have hu3 := bkeep hBr hu2
              have hu0 := bkeep hBr hu
              have zu3 := cell_lt hu3
              have zu0 := cell_lt hu0
              obtain ⟨lk, hlk⟩ : ∃ n, (g.getD k []).length = n := ⟨_, rfl⟩
              rw [hlk] at hu3
              have HLK := Lib.hid hlk
              clear e2 hu2 hlk
              by_cases e1 : lk = m
              · subst e1
                have hq1 : ((lk : Int) != (lk : Int)) = false := by simp
                have HAL := Lib.hid (show ∀ j, j < k + 1 → (g.getD j []).length = lk from fun j hj => by
                  by_cases e : j = k
                  · subst e; exact HLK.out
                  · exact hall.out j (by omega))
                go_wp2
                go_quiet (fail)
                go_wp2
                exact ⟨⟨k + 1, hlt, by go_num, by repeat (first | exact Below.refl _ _ | exact hBr | refine Below.drew ?_ | refine below_drewN ?_ _ | refine bset ?_ (by simp <;> omega) _ | refine bal ?_ _), HAL⟩, meas hlt (by go_num) rfl⟩
              · have hq1 : ((lk : Int) != (m : Int)) = true := by simp; omega
                have hE := Lib.hid (show F = 5 from by
                  rw [HE.out, if_neg fun h => e1 (by rw [← HLK.out]; exact h k (by rw [HN.out]; exact hlt))])
                clear e1
                go_wp2
                go_quiet (fail)
                go_wp2
                go_ret
                exact ⟨by rw [hE.out]; rfl, by repeat (first | exact Below.refl _ _ | exact hBr | refine Below.drew ?_ | refine below_drewN ?_ _ | refine bset ?_ (by simp <;> omega) _ | refine bal ?_ _)⟩
            · obtain rfl : k = n := by omega
              have hE := Lib.hid (show F = 0 from by rw [HE.out, if_pos fun i hi => hall.out i (by rw [← HN.out]; exact hi)])
              go_wp2
              go_ret
              exact ⟨by rw [hE.out]; rfl, hBr⟩
/-- what both answers -/
def BothPost (g : Grid) (w : World) (e : Ending) (w' : World) : Prop :=
  ((g.length ≤ 64 ∧ fitsE g = 0 ∧ ∃ v r, e = .returned (.tuple #[v, r, .bool true]) ∧ IsM 0 w' v g ∧ RefM w' r g) ∨ (¬ (g.length ≤ 64 ∧ fitsE g = 0) ∧ e = .returned (.tuple #[.agg #[.slice none 0 0], .slice none 0 0, .bool false]))) ∧ Below w.heap.size w w'
set_option maxRecDepth 100000 in
set_option maxHeartbeats 8000000 in
theorem both5_c (v : Value) (g : Grid) (w : World) (hv : GridI w v g) (hg : g.length ≤ 1048576) (hl : ∀ k, k < g.length → (g.getD k []).length ≤ 1048576) :
    Calls Tryz.prog 10 #[v] w (BothPost g w) := by
  have HV := Lib.hid hv
  have HL := Lib.hid hl
  obtain ⟨ga, gc, rfl, -⟩ := hv
  have GC := Lib.hid (fun W (q : Below w.heap.size w W) => grid5_c (.slice ga g.length gc) g W (HV.out.keep q) hg hl)
  have RC := Lib.hid (fun W (q : Below w.heap.size w W) => rows5_c (.slice ga g.length gc) g W (HV.out.keep q) hg hl)
  clear hl
  have hB := Below.refl w.heap.size w
  by_cases h64 : g.length ≤ 64
  · have hI : ¬ (64 : Int) < (g.length : Int) := by omega
    go_enter Tryz.func10, Tryz.ntmps10
    go_wp2_with fail
    (with_reducible refine (GC.out _ ?_).mono ?_); (repeat (first | exact Below.refl _ _ | exact hB | refine Below.drew ?_ | refine below_drewN ?_ _ | refine bset ?_ (by simp <;> omega) _ | refine bal ?_ _))
    rintro e w1 ⟨⟨u1, rfl, hu1⟩, hb1⟩
    have r0 : w1.cell? ⟨w.heap.size, 0, none⟩ = some (.slice none 0 0) := bkc hb1
    have zr0 := cell_lt r0
    have r0f : w1.frozen? ⟨w.heap.size, 0, none⟩ = false := bkcf (v := .slice none 0 0) hb1
    have hB : Below w.heap.size w w1 := bthen (by repeat (first | exact Below.refl _ _ | exact hB | refine Below.drew ?_ | refine below_drewN ?_ _ | refine bset ?_ (by simp <;> omega) _ | refine bal ?_ _)) hb1
    have hz : w.heap.size ≤ w1.heap.size := hB.size
    have HT1 := Lib.hid (show typOf w1 w.heap.size = some 27 from typ_keep (typ_fresh rfl) hb1)
    have HR1 := Lib.hid (gridRef hu1)
    obtain ⟨a1, c1, rfl⟩ := hu1.ex
    have FC := Lib.hid (fun W (q : Below w1.heap.size w1 W) => rfits_c (.slice a1 g.length c1) g W (HR1.out.keep q) (by omega))
    have hBw1 := Below.refl w1.heap.size w1
    obtain ⟨fe, hfe⟩ : ∃ x, fitsE g = x := ⟨_, rfl⟩
    have HFE := Lib.hid hfe
    rw [hfe] at FC
    clear GC hu1 hb1 hfe
    go_wp2_with fail
    (with_reducible refine (FC.out _ ?_).mono ?_); (repeat (first | exact Below.refl _ _ | exact hBw1 | refine Below.drew ?_ | refine below_drewN ?_ _ | refine bset ?_ (by simp <;> omega) _ | refine bal ?_ _))
    rintro e w2 ⟨rfl, hb2⟩
    have hb12 : Below w1.heap.size w1 w2 := bthen (by repeat (first | exact Below.refl _ _ | exact hBw1 | refine Below.drew ?_ | refine below_drewN ?_ _ | refine bset ?_ (by simp <;> omega) _ | refine bal ?_ _)) hb2
    have r0 : w2.cell? ⟨w.heap.size, 0, none⟩ = some (.slice none 0 0) := bkc hb2
    have zr0 := cell_lt r0
    have r0f : w2.frozen? ⟨w.heap.size, 0, none⟩ = false := bkcf (v := .slice none 0 0) hb2
    have hB : Below w.heap.size w w2 := bthen (by repeat (first | exact Below.refl _ _ | exact hB | refine Below.drew ?_ | refine below_drewN ?_ _ | refine bset ?_ (by simp <;> omega) _ | refine bal ?_ _)) hb2
    have hz : w.heap.size ≤ w2.heap.size := hB.size
    have HT2 := Lib.hid (typ_keep HT1.out hb12)
    have HR2 := Lib.hid (HR1.out.keep hb12)
    clear FC HR1 HT1 hb2
    by_cases hf : fe = 0
    · have hfb : (fe != 0) = false := by simp [hf]
      have HF0 := Lib.hid (show fitsE g = 0 from by rw [HFE.out, hf])
      clear hf
      go_wp2_with fail
      (with_reducible refine (RC.out _ ?_).mono ?_); (repeat (first | exact Below.refl _ _ | exact hB | refine Below.drew ?_ | refine below_drewN ?_ _ | refine bset ?_ (by simp <;> omega) _ | refine bal ?_ _))
      rintro e w3 ⟨⟨u3, rfl, hu3⟩, hb3⟩
      have hb23 : Below w2.heap.size w2 w3 := bthen (by have hBy := Below.refl w2.heap.size w2; repeat (first | exact Below.refl _ _ | exact hBy | refine Below.drew ?_ | refine below_drewN ?_ _ | refine bset ?_ (by simp <;> omega) _ | refine bal ?_ _)) hb3
      have r0 : w3.cell? ⟨w.heap.size, 0, none⟩ = some (.slice none 0 0) := bkc hb3
      have zr0 := cell_lt r0
      have r0f : w3.frozen? ⟨w.heap.size, 0, none⟩ = false := bkcf (v := .slice none 0 0) hb3
      have hB : Below w.heap.size w w3 := bthen (by repeat (first | exact Below.refl _ _ | exact hB | refine Below.drew ?_ | refine below_drewN ?_ _ | refine bset ?_ (by simp <;> omega) _ | refine bal ?_ _)) hb3
      have hz : w.heap.size ≤ w3.heap.size := hB.size
      have HT3 := Lib.hid (typ_keep HT2.out hb23)
      have HR3 := Lib.hid (HR2.out.keep hb23)
      have HU3 := Lib.hid (show IsL 59 (PRow 0) 0 w3 u3 g from (hu3.isL.mono fun u x h => h.row.rebase (Nat.zero_le _)).rebase (Nat.zero_le _))
      obtain ⟨a3, c3, rfl⟩ := hu3.ex
      have nc := Lib.hid (fun W (q : Below w3.heap.size w3 W) => newM_c (.slice a3 g.length c3) g W (HU3.out.keep (prs_prow 0) q) (fun i hi => Nat.le_trans (HL.out i hi) (by decide)))
      have hBw3 := Below.refl w3.heap.size w3
      clear RC hu3 hb3 HR2 HT2
      go_wp2_with fail
      (with_reducible refine (nc.out _ ?_).mono ?_); (repeat (first | exact Below.refl _ _ | exact hBw3 | refine Below.drew ?_ | refine below_drewN ?_ _ | refine bset ?_ (by simp <;> omega) _ | refine bal ?_ _))
      rintro e w4 ⟨(⟨-, v4, rfl, hv4⟩ | ⟨hf, -⟩), hb4⟩
      rotate_left
      · exact absurd HF0.out hf
      have hb34 : Below w3.heap.size w3 w4 := bthen (by repeat (first | exact Below.refl _ _ | exact hBw3 | refine Below.drew ?_ | refine below_drewN ?_ _ | refine bset ?_ (by simp <;> omega) _ | refine bal ?_ _)) hb4
      have r0 : w4.cell? ⟨w.heap.size, 0, none⟩ = some (.slice none 0 0) := bkc hb4
      have zr0 := cell_lt r0
      have r0f : w4.frozen? ⟨w.heap.size, 0, none⟩ = false := bkcf (v := .slice none 0 0) hb4
      have hB : Below w.heap.size w w4 := bthen (by repeat (first | exact Below.refl _ _ | exact hB | refine Below.drew ?_ | refine below_drewN ?_ _ | refine bset ?_ (by simp <;> omega) _ | refine bal ?_ _)) hb4
      have hz : w.heap.size ≤ w4.heap.size := hB.size
      have HT4 := typ_keep HT3.out hb34
      have HR4 := Lib.hid (HR3.out.keep hb34)
      have HV4 := Lib.hid (hv4.rebase (Nat.zero_le _))
      obtain ⟨a4, c4, rfl⟩ := hv4.lit
      clear nc hv4 hb4 HR3 HT3
      have HRF := Lib.hid (show ∀ u, RefM (w4.setCell ⟨w.heap.size, 0, none⟩ u) (.slice a1 g.length c1) g from fun u => IsL.kp (S' := fun t => t ≠ 27) prs_rrow HR4.out ((Kp.refl _ _).set (fun t ht' => by rw [show typOf w4 w.heap.size = _ from HT4] at ht'; cases ht'; exact fun h => h rfl) _) (fun t ht => by rcases ht with rfl | rfl <;> decide) (by decide))
      go_wp2
      refine bodyPost_ret (v := .tuple #[.agg #[.slice a4 g.length c4], .slice a1 g.length c1, .bool true]) (by simp [results, Tryz.results10, go_sem, *]) rfl ⟨.inl ⟨h64, HF0.out, _, _, rfl, ?_, ?_⟩, ?_⟩
      · first | exact HV4.out.setM HT4 _ | exact (HV4.out.setM HT4 _).keep (bal (Below.refl _ _) _) | exact (HV4.out.keep (bal (Below.refl _ _) _)).setM (typ_keep HT4 (bal (Below.refl _ _) _)) _
      · first | exact HRF.out _ | exact (HRF.out _).keep (bal (Below.refl _ _) _)
      ·
        repeat (first | exact Below.refl _ _ | exact hB | refine Below.drew ?_ | refine below_drewN ?_ _ | refine bset ?_ (by simp <;> omega) _ | refine bal ?_ _)
    · have hfb : (fe != 0) = true := by simp [hf]
      have HNO := Lib.hid (show ¬ (g.length ≤ 64 ∧ fitsE g = 0) from fun h => hf (by rw [← HFE.out]; exact h.2))
      clear hf RC
      go_wp2
      refine bodyPost_ret (v := .tuple #[.agg #[.slice none 0 0], .slice none 0 0, .bool false]) (by simp [results, Tryz.results10, go_sem, *]) rfl ⟨.inr ⟨HNO.out, rfl⟩, ?_⟩
      repeat (first | exact Below.refl _ _ | exact hB | refine Below.drew ?_ | refine below_drewN ?_ _ | refine bset ?_ (by simp <;> omega) _ | refine bal ?_ _)
  · have hI : (64 : Int) < (g.length : Int) := by omega
    have HNO := Lib.hid (show ¬ (g.length ≤ 64 ∧ fitsE g = 0) from fun h => h64 h.1)
    clear h64
    go_enter Tryz.func10, Tryz.ntmps10
    go_wp2_with fail
    (with_reducible refine (GC.out _ ?_).mono ?_); (repeat (first | exact Below.refl _ _ | exact hB | refine Below.drew ?_ | refine below_drewN ?_ _ | refine bset ?_ (by simp <;> omega) _ | refine bal ?_ _))
    rintro e w1 ⟨⟨u1, rfl, hu1⟩, hb1⟩
    have r0 : w1.cell? ⟨w.heap.size, 0, none⟩ = some (.slice none 0 0) := bkc hb1
    have zr0 := cell_lt r0
    have r0f : w1.frozen? ⟨w.heap.size, 0, none⟩ = false := bkcf (v := .slice none 0 0) hb1
    have hB : Below w.heap.size w w1 := bthen (by repeat (first | exact Below.refl _ _ | exact hB | refine Below.drew ?_ | refine below_drewN ?_ _ | refine bset ?_ (by simp <;> omega) _ | refine bal ?_ _)) hb1
    have hz : w.heap.size ≤ w1.heap.size := hB.size
    obtain ⟨a1, c1, rfl⟩ := hu1.ex
    clear GC RC hu1
    go_wp2
    refine bodyPost_ret (v := .tuple #[.agg #[.slice none 0 0], .slice none 0 0, .bool false]) (by simp [results, Tryz.results10, go_sem, *]) rfl ⟨.inr ⟨HNO.out, rfl⟩, ?_⟩
    repeat (first | exact Below.refl _ _ | exact hB | refine Below.drew ?_ | refine below_drewN ?_ _ | refine bset ?_ (by simp <;> omega) _ | refine bal ?_ _)
end Go.Proofs.YthaohpfbengabaaGreatDoor

/- row: Cmp, Same; matrix: Same. -/
namespace Go.Proofs.YthaohpfbengabaaGreatDoor
open Num
open Go.ChangeShapes Go.WideShapes Go.ChangeAt Go.RowKit
set_option linter.unusedVariables false
set_option linter.unusedSimpArgs false
attribute [local go_sem ↓] Go.wp_at_zero Go.wp_at_succ
theorem list_ext {α : Type} {a b : List α} {d : α} (h : a.length = b.length) (he : ∀ t, t < a.length → a.getD t d = b.getD t d) : a = b := by
  apply List.ext_getElem h
  intro i h1 h2
  have := he i h1
  simpa [h1, h2] using this
/-- a comparison of rows -/
def CmpOk (c : Int) (a b : List Int) : Prop := c = 0 ↔ a = b
theorem cmpI_zero {x y : Int} : cmpI x y = 0 ↔ x = y := by
  unfold cmpI
  split
  · constructor
    · intro h; cases h
    · intro h; omega
  · split
    · simp [*]
    · constructor
      · intro h; cases h
      · intro h; contradiction
set_option maxRecDepth 100000 in
set_option maxHeartbeats 8000000 in
theorem rowCmp_c (va vb : Value) (la lb : List Int) (w : World) (ha : PRow 0 w va la) (hb : PRow 0 w vb lb) (hla : la.length ≤ 1099511627775) (hlb : lb.length ≤ 1099511627775) :
    Calls Tryz.prog 138 #[va, vb] w fun e w' => (∃ c : Int, e = .returned (.int .i64 c) ∧ CmpOk c la lb) ∧ Below w.heap.size w w' := by
  have HA := Lib.hid ha
  have HBB := Lib.hid hb
  obtain ⟨aa, ca, rfl, -⟩ := ha
  obtain ⟨ab, cb, rfl, -⟩ := hb
  have hB := Below.refl w.heap.size w
  rcases Nat.lt_trichotomy la.length lb.length with hl | hl | hl
  · have hI : (la.length : Int) < (lb.length : Int) := by omega
    have HNE := Lib.hid (show CmpOk (-1) la lb from Iff.intro (fun h => absurd h (by decide)) (fun h => absurd hl (by rw [h]; exact Nat.lt_irrefl _)))
    go_enter Tryz.func138, Tryz.ntmps138
    go_wp2
    go_ret
    exact ⟨⟨_, rfl, HNE.out⟩, by repeat (first | exact Below.refl _ _ | exact hB | refine Below.drew ?_ | refine below_drewN ?_ _ | refine bset ?_ (by simp <;> omega) _ | refine bal ?_ _)⟩
  · have HLE := Lib.hid hl
    obtain ⟨n, hn⟩ : ∃ n, la.length = n := ⟨_, rfl⟩
    have hn2 : lb.length = n := by rw [← hl]; exact hn
    have HN := Lib.hid (And.intro hn hn2)
    rw [hn] at hla ⊢
    rw [hn2]
    clear hl hn hn2 hlb
    have hI1 : ¬ (n : Int) < (n : Int) := by omega
    go_enter Tryz.func138, Tryz.ntmps138
    go_wp2
    go_loopw [22] (fun x wr => ∃ j : Nat, j ≤ n ∧ x = .int .i64 j ∧ Below w.heap.size w wr ∧ Hid (∀ t, t < j → la.getD t 0 = lb.getD t 0)) (fun x _ => n - (intOf x).toNat)
    case atStart => exact ⟨0, Nat.zero_le _, rfl, hB, Lib.hid (fun t ht => by omega)⟩
    case round =>
      obtain ⟨j, hj, rfl, hBr, hE⟩ := hrel
      by_cases hlt : j < n
      · have hltI : (j : Int) < (n : Int) := by omega
        obtain ⟨a', c', he, -, vr⟩ := (HA.out.keep lims_int hBr).view
        obtain ⟨rfl, -, rfl⟩ := Value.slice.inj he
        obtain ⟨b', d', he2, -, vs⟩ := (HBB.out.keep lims_int hBr).view
        obtain ⟨rfl, -, rfl⟩ := Value.slice.inj he2
        obtain ⟨rb, ro, n3, a3, l3, c3, rfl, r0, r1, hi⟩ := vr j (by rw [HN.out.1]; exact hlt)
        obtain ⟨sb, so, n4, a4, l4, c4, rfl, s0, s1, hi2⟩ := vs j (by rw [HN.out.2]; exact hlt)
        have HI := Lib.hid (And.intro hi hi2)
        have kc := fun W (q : Below wr.heap.size wr W) => cmp_c _ _ (la.getD j 0) (lb.getD j 0) W (HI.out.1.keep q) (HI.out.2.keep q)
        obtain ⟨c, hc⟩ : ∃ c, cmpI (la.getD j 0) (lb.getD j 0) = c := ⟨_, rfl⟩
        have HC := Lib.hid hc
        rw [hc] at kc
        have KC := Lib.hid kc
        have zr := cell_lt r0
        have zs := cell_lt s0
        clear hc kc hi hi2 vr vs he he2
        have hBw := Below.refl wr.heap.size wr
        go_wp2
        refine wp_name fun w3 hW3 => ?_
        have hb3 : Below wr.heap.size wr w3 := by rw [hW3]; repeat (first | exact Below.refl _ _ | exact hBw | refine Below.drew ?_ | refine below_drewN ?_ _ | refine bset ?_ (by simp <;> omega) _ | refine bal ?_ _)
        obtain ⟨x0, x1⟩ : w3.cell? ⟨wr.heap.size, 0, none⟩ = some (.bool n3) ∧ w3.cell? ⟨wr.heap.size, 1, none⟩ = some (.slice a3 l3 c3) := by rw [hW3]; simp [go_sem]
        replace s0 := bkeep hb3 s0
        replace s1 := bkeep hb3 s1
        clear hW3 r0 r1
        have zx := cell_lt x0
        replace zs := cell_lt s0
        have HS := Lib.hid (show ∀ W, Below w3.heap.size w3 W → W.cell? ⟨wr.heap.size, 0, none⟩ = some (.bool n3) ∧ W.cell? ⟨wr.heap.size, 1, none⟩ = some (.slice a3 l3 c3) ∧ W.cell? ⟨sb, so + j * 2, none⟩ = some (.bool n4) ∧ W.cell? ⟨sb, so + j * 2 + 1, none⟩ = some (.slice a4 l4 c4) from fun W q => ⟨bkeep q x0, bkeep q x1, bkeep q s0, bkeep q s1⟩)
        have hBx := Below.refl w3.heap.size w3
        go_region_held3 (fun W => W.cell? ⟨wr.heap.size, 0, none⟩ = some (.bool n3) ∧ W.cell? ⟨wr.heap.size, 1, none⟩ = some (.slice a3 l3 c3) ∧ W.cell? ⟨sb, so + j * 2, none⟩ = some (.bool n4) ∧ W.cell? ⟨sb, so + j * 2 + 1, none⟩ = some (.slice a4 l4 c4))
          (first | (refine HS.out _ ?_; (repeat (first | exact Below.refl _ _ | exact hBx | refine Below.drew ?_ | refine below_drewN ?_ _ | refine bset ?_ (by simp <;> omega) _ | refine bal ?_ _)); done) | fail)
          (first
          | (go_at_call 64; (with_reducible refine (KC.out _ ?_).mono ?_); (refine bthen hb3 ?_; (repeat (first | exact Below.refl _ _ | exact hBx | refine Below.drew ?_ | refine below_drewN ?_ _ | refine bset ?_ (by simp <;> omega) _ | refine bal ?_ _))); rintro e w5 ⟨rfl, hb5⟩; (have hBd : Below w3.heap.size w3 w5 := bthen (by repeat (first | exact Below.refl _ _ | exact hBx | refine Below.drew ?_ | refine below_drewN ?_ _ | refine bset ?_ (by simp <;> omega) _ | refine bal ?_ _)) hb5; clear hBx; have hBx := hBd; clear hBd))
          | fail)
        all_goals
          have hB5 := bthen hBr (bthen hb3 hBx)
          by_cases hc0 : c = 0
          · have hcI : (c != 0) = false := by simp [hc0]
            have HE2 := Lib.hid (show ∀ t, t < j + 1 → la.getD t 0 = lb.getD t 0 from fun t ht => by
              by_cases e : t = j
              · subst e; exact cmpI_zero.1 (by rw [HC.out]; exact hc0)
              · exact hE.out t (by omega))
            clear hc0 x0 x1 s0 s1 HS
            go_wp2
            exact ⟨⟨j + 1, hlt, by go_num, hB5, HE2⟩, meas hlt (by go_num) rfl⟩
          · have hcI : (c != 0) = true := by simp [hc0]
            have HNE := Lib.hid (show CmpOk c la lb from ⟨fun h => absurd h hc0, fun h => by rw [← HC.out, h]; exact cmpI_zero.2 rfl⟩)
            clear hc0 x0 x1 s0 s1 HS
            go_wp2
            go_ret
            exact ⟨⟨_, rfl, HNE.out⟩, hB5⟩
      · obtain rfl : j = n := by omega
        have HEQ := Lib.hid (show CmpOk 0 la lb from ⟨fun _ => list_ext (d := 0) HLE.out (fun t ht => hE.out t (by rw [← HN.out.1]; exact ht)), fun _ => rfl⟩)
        go_wp2
        go_ret
        exact ⟨⟨_, rfl, HEQ.out⟩, hBr⟩
  · have hI : (lb.length : Int) < (la.length : Int) := by omega
    have hI2 : ¬ (la.length : Int) < (lb.length : Int) := by omega
    have HNE := Lib.hid (show CmpOk 1 la lb from Iff.intro (fun h => absurd h (by decide)) (fun h => absurd hl (by rw [h]; exact Nat.lt_irrefl _)))
    go_enter Tryz.func138, Tryz.ntmps138
    go_wp2
    go_ret
    exact ⟨⟨_, rfl, HNE.out⟩, by repeat (first | exact Below.refl _ _ | exact hB | refine Below.drew ?_ | refine below_drewN ?_ _ | refine bset ?_ (by simp <;> omega) _ | refine bal ?_ _)⟩
set_option maxRecDepth 100000 in
set_option maxHeartbeats 2000000 in
theorem rowSame_c (va vb : Value) (la lb : List Int) (w : World) (ha : PRow 0 w va la) (hb : PRow 0 w vb lb) (hla : la.length ≤ 1099511627775) (hlb : lb.length ≤ 1099511627775) :
    Calls Tryz.prog 88 #[va, vb] w fun e w' => e = .returned (.bool (decide (la = lb))) ∧ Below w.heap.size w w' := by
  have kc := Lib.hid (fun W (q : Below w.heap.size w W) => rowCmp_c va vb la lb W (ha.keep lims_int q) (hb.keep lims_int q) hla hlb)
  obtain ⟨aa, ca, rfl, -⟩ := ha
  obtain ⟨ab, cb, rfl, -⟩ := hb
  have hB := Below.refl w.heap.size w
  obtain ⟨q, hq⟩ : ∃ q, decide (la = lb) = q := ⟨_, rfl⟩
  have HQ := Lib.hid hq
  rw [hq]
  clear hq
  go_enter Tryz.func88, Tryz.ntmps88
  go_wp2_with fail
  (with_reducible refine (kc.out _ ?_).mono ?_); (repeat (first | exact Below.refl _ _ | exact hB | refine Below.drew ?_ | refine below_drewN ?_ _ | refine bset ?_ (by simp <;> omega) _ | refine bal ?_ _))
  rintro e w1 ⟨⟨c, rfl, hc⟩, hb1⟩
  have hB1 : Below w.heap.size w w1 := bthen (by repeat (first | exact Below.refl _ _ | exact hB | refine Below.drew ?_ | refine below_drewN ?_ _ | refine bset ?_ (by simp <;> omega) _ | refine bal ?_ _)) hb1
  have hcq : (c == 0) = q := by
    rw [← HQ.out]
    by_cases h : c = 0
    · simp [h, hc.1 h]
    · have : ¬ la = lb := fun e => h (hc.2 e)
      simp [h, this]
  clear kc hc
  go_wp2
  go_ret
  exact ⟨rfl, hB1⟩
end Go.Proofs.YthaohpfbengabaaGreatDoor

/- matrix: Same. -/
namespace Go.Proofs.YthaohpfbengabaaGreatDoor
open Num
open Go.ChangeShapes Go.WideShapes Go.ChangeAt Go.RowKit
set_option linter.unusedVariables false
set_option linter.unusedSimpArgs false
attribute [local go_sem ↓] Go.wp_at_zero Go.wp_at_succ
set_option maxRecDepth 100000 in
set_option maxHeartbeats 8000000 in
theorem eqFunc_c (va vb : Value) (g h : Grid) (w : World) (ha : IsL 59 (PRow 0) 0 w va g) (hb : IsL 59 (PRow 0) 0 w vb h) (hgl : g.length ≤ 65536) (hg : ∀ i, i < g.length → (g.getD i []).length ≤ 1099511627775) (hh : ∀ i, i < h.length → (h.getD i []).length ≤ 1099511627775) :
    Calls Tryz.prog 87 #[va, vb, .func (.func 88) #[] #[]] w fun e w' => e = .returned (.bool (decide (g = h))) ∧ Below w.heap.size w w' := by
  have HA := Lib.hid ha
  have HBB := Lib.hid hb
  have HG := Lib.hid (And.intro hg hh)
  obtain ⟨aa, ca, rfl, -⟩ : ∃ a c, va = .slice a g.length c ∧ True := by obtain ⟨a, c, e, _⟩ := ha.view; exact ⟨a, c, e, trivial⟩
  obtain ⟨ab, cb, rfl, -⟩ : ∃ a c, vb = .slice a h.length c ∧ True := by obtain ⟨a, c, e, _⟩ := hb.view; exact ⟨a, c, e, trivial⟩
  clear ha hb hg hh
  obtain ⟨q, hq⟩ : ∃ q, decide (g = h) = q := ⟨_, rfl⟩
  have HQ := Lib.hid hq
  rw [hq]
  clear hq
  have hB := Below.refl w.heap.size w
  by_cases hl : g.length = h.length
  · obtain ⟨n, hn⟩ : ∃ n, g.length = n := ⟨_, rfl⟩
    have hn2 : h.length = n := by rw [← hl]; exact hn
    have HN := Lib.hid (And.intro hn hn2)
    rw [hn] at hgl ⊢
    rw [hn2]
    clear hl hn hn2
    have hnn : ((n : Int) != (n : Int)) = false := by simp
    go_enter Tryz.func87, Tryz.ntmps87
    go_wp2
    go_loopw [17] (fun x wr => ∃ j : Nat, j ≤ n ∧ x = .int .i64 j ∧ Below w.heap.size w wr ∧ Hid (∀ t, t < j → g.getD t [] = h.getD t [])) (fun x _ => n - (intOf x).toNat)
    case atStart => exact ⟨0, Nat.zero_le _, rfl, hB, Lib.hid (fun t ht => by omega)⟩
    case round =>
      obtain ⟨j, hj, rfl, hBr, hE⟩ := hrel
      by_cases hlt : j < n
      · have hltI : (j : Int) < (n : Int) := by omega
        obtain ⟨c1, gb1, go1, ra1, rc1, e1, hu1, hp1⟩ := (HA.out.keep (prs_prow 0) hBr).row (i := j) (by rw [HN.out.1]; exact hlt)
        obtain ⟨rfl, -, rfl⟩ := Value.slice.inj e1
        obtain ⟨c2, gb2, go2, ra2, rc2, e2, hu2, hp2⟩ := (HBB.out.keep (prs_prow 0) hBr).row (i := j) (by rw [HN.out.2]; exact hlt)
        obtain ⟨rfl, -, rfl⟩ := Value.slice.inj e2
        have b1 := HG.out.1 j (by rw [HN.out.1]; exact hlt)
        have b2 := HG.out.2 j (by rw [HN.out.2]; exact hlt)
        obtain ⟨l1, hl1⟩ : ∃ l, g.getD j [] = l := ⟨_, rfl⟩
        obtain ⟨l2, hl2⟩ : ∃ l, h.getD j [] = l := ⟨_, rfl⟩
        rw [hl1] at hu1 hp1 b1
        rw [hl2] at hu2 hp2 b2
        have HL := Lib.hid (And.intro hl1 hl2)
        have KC := Lib.hid (fun W (q : Below wr.heap.size wr W) => rowSame_c (.slice ra1 l1.length rc1) (.slice ra2 l2.length rc2) l1 l2 W (hp1.keep lims_int q) (hp2.keep lims_int q) b1 b2)
        have z1 := cell_lt hu1
        have z2 := cell_lt hu2
        have hBw := Below.refl wr.heap.size wr
        clear e1 e2 hp1 hp2 b1 b2 hl1 hl2
        obtain ⟨p, hp⟩ : ∃ p, decide (l1 = l2) = p := ⟨_, rfl⟩
        have HP := Lib.hid hp
        rw [hp] at KC
        clear hp
        go_wp2_with fail
        (with_reducible refine (KC.out _ ?_).mono ?_); (repeat (first | exact Below.refl _ _ | exact hBw | refine Below.drew ?_ | refine below_drewN ?_ _ | refine bset ?_ (by simp <;> omega) _ | refine bal ?_ _))
        rintro e w5 ⟨rfl, hb5⟩
        have hB5 := bthen hBr (bthen (show Below wr.heap.size wr _ by repeat (first | exact Below.refl _ _ | exact hBw | refine Below.drew ?_ | refine below_drewN ?_ _ | refine bset ?_ (by simp <;> omega) _ | refine bal ?_ _)) hb5)
        clear KC hu1 hu2
        cases p with
        | true =>
          have HE2 := Lib.hid (show ∀ t, t < j + 1 → g.getD t [] = h.getD t [] from fun t ht => by
            by_cases e : t = j
            · subst e; rw [HL.out.1, HL.out.2]; exact of_decide_eq_true HP.out
            · exact hE.out t (by omega))
          go_wp2
          exact ⟨⟨j + 1, hlt, by go_num, hB5, HE2⟩, meas hlt (by go_num) rfl⟩
        | false =>
          have HNE := Lib.hid (show q = false from by
            rw [← HQ.out]
            exact decide_eq_false fun e => (of_decide_eq_false HP.out) (by rw [← HL.out.1, ← HL.out.2, e]))
          go_wp2
          go_ret
          exact ⟨by rw [HNE.out]; rfl, hB5⟩
      · obtain rfl : j = n := by omega
        have HEQ := Lib.hid (show q = true from by
          rw [← HQ.out]
          exact decide_eq_true (list_ext (d := []) (by rw [HN.out.1, HN.out.2]) (fun t ht => hE.out t (by rw [← HN.out.1]; exact ht))))
        go_wp2
        go_ret
        exact ⟨by rw [HEQ.out]; rfl, hBr⟩
  · have hnI : ((g.length : Int) != (h.length : Int)) = true := by simp; omega
    have HNE := Lib.hid (show q = false from by rw [← HQ.out]; exact decide_eq_false fun e => hl (by rw [e]))
    go_enter Tryz.func87, Tryz.ntmps87
    go_wp2
    go_ret
    exact ⟨by rw [HNE.out]; rfl, by repeat (first | exact Below.refl _ _ | exact hB | refine Below.drew ?_ | refine below_drewN ?_ _ | refine bset ?_ (by simp <;> omega) _ | refine bal ?_ _)⟩
set_option maxRecDepth 100000 in
set_option maxHeartbeats 2000000 in
theorem sameM_c (va vb : Value) (g h : Grid) (w : World) (ha : IsM 0 w va g) (hb : IsM 0 w vb h) (hgl : g.length ≤ 65536) (hg : ∀ i, i < g.length → (g.getD i []).length ≤ 1099511627775) (hh : ∀ i, i < h.length → (h.getD i []).length ≤ 1099511627775) :
    Calls Tryz.prog 32 #[va, vb] w fun e w' => e = .returned (.bool (decide (g = h))) ∧ Below w.heap.size w w' := by
  obtain ⟨aa, ca, rfl, la⟩ := ha
  obtain ⟨ab, cb, rfl, lb⟩ := hb
  have EC := Lib.hid (fun W (q : Below w.heap.size w W) => eqFunc_c (.slice aa g.length ca) (.slice ab h.length cb) g h W (la.keep (prs_prow 0) q) (lb.keep (prs_prow 0) q) hgl hg hh)
  clear la lb hg hh hgl
  obtain ⟨q, hq⟩ : ∃ q, decide (g = h) = q := ⟨_, rfl⟩
  rw [hq] at EC ⊢
  clear hq
  have hB := Below.refl w.heap.size w
  go_enter Tryz.func32, Tryz.ntmps32
  go_wp2_with fail
  (with_reducible refine (EC.out _ ?_).mono ?_); (repeat (first | exact Below.refl _ _ | exact hB | refine Below.drew ?_ | refine below_drewN ?_ _ | refine bset ?_ (by simp <;> omega) _ | refine bal ?_ _))
  rintro e w1 ⟨rfl, hb1⟩
  have hB1 : Below w.heap.size w w1 := bthen (by repeat (first | exact Below.refl _ _ | exact hB | refine Below.drew ?_ | refine below_drewN ?_ _ | refine bset ?_ (by simp <;> omega) _ | refine bal ?_ _)) hb1
  clear EC
  go_wp2
  go_ret
  exact ⟨rfl, hB1⟩
end Go.Proofs.YthaohpfbengabaaGreatDoor

