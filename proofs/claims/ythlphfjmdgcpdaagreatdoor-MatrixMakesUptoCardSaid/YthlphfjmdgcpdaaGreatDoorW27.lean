/- Texts of this seat, laid together: MkA, MwJ, MwK, MwG, MwH. Each opens with its own remark, which says what it proves, and under which conditions. -/
import Derived.Test.YthlphfjmdgcpdaaGreatDoorW17
import Derived.Test.YthlphfjmdgcpdaaGreatDoorW26
import Derived.Test.YthlphfjmdgcpdaaGreatDoorW08
import Derived.Test.YthlphfjmdgcpdaaGreatDoorW20
import Derived.Test.YthlphfjmdgcpdaaGreatDoorW25
import Derived.Test.YthlphfjmdgcpdaaGreatDoorW02
set_option linter.unusedVariables false
set_option linter.unusedSimpArgs false
/- the reference's texts of rows and of matrices. -/
namespace Go.Proofs.YthlphfjmdgcpdaaGreatDoor
open Num
open Go.ChangeShapes Go.WideShapes Go.ChangeAt Go.RowKit
set_option linter.unusedVariables false
set_option linter.unusedSimpArgs false
attribute [local go_sem ↓] Go.wp_at_zero Go.wp_at_succ
/-- what has been written of some texts in brackets -/
def accT (L : List (List UInt8)) (k : Nat) : List UInt8 := [91] ++ Lib.join (L.take k) [32]
theorem join_snocT : ∀ (L : List (List UInt8)) (x s : List UInt8), Lib.join (L ++ [x]) s = Lib.join L s ++ (if L = [] then [] else s) ++ x := by
  intro L x s
  induction L with
  | nil => simp [Lib.join]
  | cons y L ih =>
    cases L with
    | nil => simp [Lib.join]
    | cons z L =>
      have e : Lib.join (y :: z :: L ++ [x]) s = y ++ s ++ Lib.join (z :: L ++ [x]) s := by simp [Lib.join]
      have e2 : Lib.join (y :: z :: L) s = y ++ s ++ Lib.join (z :: L) s := by simp [Lib.join]
      rw [e, ih, e2]
      simp
theorem accT_0 (L : List (List UInt8)) : accT L 0 = [91] := by simp [accT, Lib.join]
theorem accT_step {L : List (List UInt8)} {k : Nat} (hk : k < L.length) : accT L (k + 1) = accT L k ++ (if k = 0 then [] else [32]) ++ L.getD k [] := by
  unfold accT
  rw [take_getD [] hk, join_snocT]
  have e : (L.take k = []) ↔ k = 0 := by
    constructor
    · intro h
      have h1 : min k L.length = 0 := by have := congrArg List.length h; rw [List.length_take] at this; exact this
      omega
    · intro h; rw [h]; rfl
  by_cases h0 : k = 0
  · rw [if_pos h0, if_pos (e.2 h0)]; simp
  · rw [if_neg h0, if_neg (fun h => h0 (e.1 h))]; simp
theorem accT_all (L : List (List UInt8)) : accT L L.length ++ [93] = brTxt L := by
  unfold accT brTxt
  rw [List.take_length]
  simp
theorem accT_le {L : List (List UInt8)} {j : Nat} (hj : j ≤ L.length) : (accT L j).length ≤ 1 + (Lib.join L [32]).length := by
  have key : ∀ d, j + d ≤ L.length → (accT L j).length ≤ (accT L (j + d)).length := by
    intro d
    induction d with
    | zero => intro _; exact Nat.le_refl _
    | succ d ih =>
      intro h
      refine Nat.le_trans (ih (by omega)) ?_
      rw [show j + (d + 1) = (j + d) + 1 by omega, accT_step (by omega), List.length_append, List.length_append]
      omega
  have h := key (L.length - j) (by omega)
  rw [show j + (L.length - j) = L.length by omega] at h
  refine Nat.le_trans h ?_
  unfold accT
  rw [List.take_length, List.length_append]
  exact Nat.le_refl _
theorem ba_app (a b : List UInt8) : (⟨a.toArray⟩ : ByteArray) ++ ⟨b.toArray⟩ = ⟨(a ++ b).toArray⟩ := by
  apply ByteArray.ext
  simp [ByteArray.data_append]
theorem ba_one (a : List UInt8) (x : UInt8) : (⟨a.toArray⟩ : ByteArray) ++ ⟨#[x]⟩ = ⟨(a ++ [x]).toArray⟩ := by
  apply ByteArray.ext
  simp [ByteArray.data_append]
set_option maxRecDepth 100000 in
set_option maxHeartbeats 4000000 in
theorem rrowText_c (v : Value) (l : List Int) (k : Nat) (w : World) (hv : RRow 0 w v l) (hl : l.length ≤ 1099511627775) (hb : ∀ j, Bd k (l.getD j 0)) (hk : k ≤ 1073741824) (hlen : (Lib.join (l.map intTxt) [32]).length ≤ 140737488355328) :
    Calls Tryz.prog 73 #[v] w fun e w' => e = .returned (.string ⟨(rowTxt l).toArray⟩) ∧ Below w.heap.size w w' := by
  have HV := Lib.hid hv
  obtain ⟨a, c, rfl, -, -⟩ := hv.view
  have HBD := Lib.hid hb
  have HAC := Lib.hid (fun j (hj : j < l.length) => accT_step (L := l.map intTxt) (k := j) (by rw [List.length_map]; exact hj))
  have HEL := Lib.hid (fun j (hj : j < l.length) => (show (l.map intTxt).getD j [] = intTxt (l.getD j 0) from by simp [hj]))
  have HFIN := Lib.hid (show accT (l.map intTxt) l.length ++ [93] = rowTxt l from by
    have h := accT_all (l.map intTxt)
    rw [List.length_map] at h
    exact h)
  have H0 := Lib.hid (accT_0 (l.map intTxt))
  have HAL := Lib.hid (fun j (hj : j ≤ l.length) => Nat.le_trans (accT_le (L := l.map intTxt) (j := j) (by rw [List.length_map]; exact hj)) (Nat.add_le_add_left hlen 1))
  obtain ⟨n, hn⟩ : ∃ n, l.length = n := ⟨_, rfl⟩
  have HNL := Lib.hid hn
  rw [hn] at HAC HEL HFIN HAL hl ⊢
  obtain ⟨A, hA⟩ : ∃ A, accT (l.map intTxt) = A := ⟨_, rfl⟩
  rw [hA] at HAC HFIN H0 HAL
  have hB := Below.refl w.heap.size w
  clear hv hb hn hA hlen
  go_enter Tryz.func73, Tryz.ntmps73
  go_wp2
  go_loopw [3, 4] (fun s x wr => ∃ (j : Nat) (S : ByteArray), j ≤ n ∧ x = .int .i64 j ∧ s = .string S ∧ Hid (S = ⟨(A j).toArray⟩) ∧ Below w.heap.size w wr) (fun _ x _ => n - (intOf x).toNat)
  case atStart => exact ⟨0, _, Nat.zero_le _, rfl, rfl, Lib.hid (by rw [H0.out]), by repeat (first | exact Below.refl _ _ | exact hB | refine Below.drew ?_ | refine below_drewN ?_ _ | refine bset ?_ (by simp <;> omega) _ | refine bal ?_ _)⟩
  case round =>
    obtain ⟨j, S, hj, rfl, rfl, hS, hBr⟩ := hrel
    by_cases hlt : j < n
    · have hltI : (j : Int) < (n : Int) := by omega
      have HLT := Lib.hid hlt
      obtain ⟨_, _, e, -, vr⟩ := (IsRow.keep lims_ref HV.out hBr).view
      cases e
      obtain ⟨b, off, nb, ad, ln, cp, e, d0, d1, hx⟩ := vr j (by rw [HNL.out]; exact hlt)
      cases e
      have hbx := HBD.out j
      have hst := HAC.out j hlt
      rw [HEL.out j hlt] at hst
      obtain ⟨z, hz⟩ : ∃ z, l.getD j 0 = z := ⟨_, rfl⟩
      rw [hz] at hx hbx hst
      have HST := Lib.hid hst
      have TC := Lib.hid (fun W (q : Below wr.heap.size wr W) => rtext_c (.agg #[.bool nb, .slice ad ln cp]) z k W (hx.lim (.of_below q)) hbx hk)
      have zd := cell_lt d0
      have hBw := Below.refl wr.heap.size wr
      clear hx hbx hst hz vr hlt
      have hz1 : S.size = (A j).length := by rw [hS.out]; simp [ByteArray.size]
      have hz2 := HAL.out (j + 1) (by have := HLT.out; omega)
      have hTE : ∃ T, intTxt z = T := ⟨_, rfl⟩
      obtain ⟨T, hT⟩ := hTE
      rw [hT] at HST TC
      by_cases h0 : 0 < j
      · have hgt : (0 : Int) < (j : Int) := by omega
        have hz3 : S.size + 1 + T.length ≤ 140737488355329 := by
          rw [HST.out, if_neg (by omega)] at hz2
          simp at hz2
          omega
        have hs1 : ¬ 9223372036854775807 < S.size + 1 := by omega
        have hs2 : ¬ 9223372036854775807 < S.size + 1 + T.length := by omega
        have HS2 := Lib.hid (show S ++ ⟨#[32]⟩ ++ ⟨T.toArray⟩ = ⟨(A (j + 1)).toArray⟩ from by rw [hS.out, HST.out, if_neg (by omega), ba_one, ba_app])
        have hl0 := HLT.out
        clear hz1 hz2 hz3 hT h0
        go_wp2_with fail
        (with_reducible refine (TC.out _ ?_).mono ?_); (repeat (first | exact Below.refl _ _ | exact hBw | refine Below.drew ?_ | refine below_drewN ?_ _ | refine bset ?_ (by simp <;> omega) _ | refine bal ?_ _))
        rintro e w5 ⟨rfl, hb5⟩
        have hB5 := bthen hBr (bthen (show Below wr.heap.size wr _ by repeat (first | exact Below.refl _ _ | exact hBw | refine Below.drew ?_ | refine below_drewN ?_ _ | refine bset ?_ (by simp <;> omega) _ | refine bal ?_ _)) hb5)
        clear TC hb5 hBw d0 d1 zd
        go_wp2
        exact ⟨⟨j + 1, _, hl0, by go_num, rfl, HS2, hB5⟩, meas hl0 (by go_num) rfl⟩
      · have hgt : ¬ (0 : Int) < (j : Int) := by omega
        have hz3 : S.size + T.length ≤ 140737488355329 := by
          rw [HST.out, if_pos (by omega)] at hz2
          simp at hz2
          omega
        have hs2 : ¬ 9223372036854775807 < S.size + T.length := by omega
        have HS2 := Lib.hid (show S ++ ⟨T.toArray⟩ = ⟨(A (j + 1)).toArray⟩ from by rw [hS.out, HST.out, if_pos (by omega), ba_app]; simp)
        have hl0 := HLT.out
        clear hz1 hz2 hz3 hT h0
        go_wp2_with fail
        (with_reducible refine (TC.out _ ?_).mono ?_); (repeat (first | exact Below.refl _ _ | exact hBw | refine Below.drew ?_ | refine below_drewN ?_ _ | refine bset ?_ (by simp <;> omega) _ | refine bal ?_ _))
        rintro e w5 ⟨rfl, hb5⟩
        have hB5 := bthen hBr (bthen (show Below wr.heap.size wr _ by repeat (first | exact Below.refl _ _ | exact hBw | refine Below.drew ?_ | refine below_drewN ?_ _ | refine bset ?_ (by simp <;> omega) _ | refine bal ?_ _)) hb5)
        clear TC hb5 hBw d0 d1 zd
        go_wp2
        exact ⟨⟨j + 1, _, hl0, by go_num, rfl, HS2, hB5⟩, meas hl0 (by go_num) rfl⟩
    · obtain rfl : n = j := by omega
      have hltI : ¬ (n : Int) < (n : Int) := by omega
      have HS2 := Lib.hid (show S ++ ⟨#[93]⟩ = ⟨(rowTxt l).toArray⟩ from by rw [hS.out, ba_one, HFIN.out])
      have hs1 : ¬ 9223372036854775807 < S.size + 1 := by
        have h1 : S.size = (A n).length := by rw [hS.out]; simp [ByteArray.size]
        have h2 := HAL.out n (Nat.le_refl _)
        omega
      go_wp2
      go_ret
      exact ⟨congrArg (fun s => Ending.returned (.string s)) HS2.out, by repeat (first | exact Below.refl _ _ | exact hBr | refine Below.drew ?_ | refine below_drewN ?_ _ | refine bset ?_ (by simp <;> omega) _ | refine bal ?_ _)⟩
set_option maxRecDepth 100000 in
set_option maxHeartbeats 4000000 in
theorem rmatText_c (v : Value) (g : Grid) (k : Nat) (w : World) (hv : IsL 33 (RRow 0) 0 w v g) (hg : g.length ≤ 1099511627775) (hl : ∀ i, i < g.length → (g.getD i []).length ≤ 1099511627775) (hb : BdM k g) (hk : k ≤ 1073741824) (h1 : ∀ i, i < g.length → (Lib.join ((g.getD i []).map intTxt) [32]).length ≤ 140737488355328) (h2 : (Lib.join (g.map rowTxt) [32]).length ≤ 140737488355328) :
    Calls Tryz.prog 29 #[v] w fun e w' => e = .returned (.string ⟨(matTxt g).toArray⟩) ∧ Below w.heap.size w w' := by
  have HV := Lib.hid hv
  obtain ⟨a, c, rfl, -, -⟩ := hv.view
  have HBD := Lib.hid hb
  have HLR := Lib.hid (And.intro hl h1)
  have HAC := Lib.hid (fun j (hj : j < g.length) => accT_step (L := g.map rowTxt) (k := j) (by rw [List.length_map]; exact hj))
  have HEL := Lib.hid (fun j (hj : j < g.length) => (show (g.map rowTxt).getD j [] = rowTxt (g.getD j []) from by simp [hj]))
  have HFIN := Lib.hid (show accT (g.map rowTxt) g.length ++ [93] = matTxt g from by
    have h := accT_all (g.map rowTxt)
    rw [List.length_map] at h
    exact h)
  have H0 := Lib.hid (accT_0 (g.map rowTxt))
  have HAL := Lib.hid (fun j (hj : j ≤ g.length) => Nat.le_trans (accT_le (L := g.map rowTxt) (j := j) (by rw [List.length_map]; exact hj)) (Nat.add_le_add_left h2 1))
  obtain ⟨n, hn⟩ : ∃ n, g.length = n := ⟨_, rfl⟩
  have HNL := Lib.hid hn
  rw [hn] at HAC HEL HFIN HAL HLR hg ⊢
  obtain ⟨A, hA⟩ : ∃ A, accT (g.map rowTxt) = A := ⟨_, rfl⟩
  rw [hA] at HAC HFIN H0 HAL
  have hB := Below.refl w.heap.size w
  clear hv hb hn hA hl h1 h2
  go_enter Tryz.func29, Tryz.ntmps29
  go_wp2
  go_loopw [3, 4] (fun s x wr => ∃ (j : Nat) (S : ByteArray), j ≤ n ∧ x = .int .i64 j ∧ s = .string S ∧ Hid (S = ⟨(A j).toArray⟩) ∧ Below w.heap.size w wr) (fun _ x _ => n - (intOf x).toNat)
  case atStart => exact ⟨0, _, Nat.zero_le _, rfl, rfl, Lib.hid (by rw [H0.out]), by repeat (first | exact Below.refl _ _ | exact hB | refine Below.drew ?_ | refine below_drewN ?_ _ | refine bset ?_ (by simp <;> omega) _ | refine bal ?_ _)⟩
  case round =>
    obtain ⟨j, S, hj, rfl, rfl, hS, hBr⟩ := hrel
    by_cases hlt : j < n
    · have hltI : (j : Int) < (n : Int) := by omega
      have HLT := Lib.hid hlt
      obtain ⟨c2, gb, go, ra, rc, e, hu, hp⟩ := (HV.out.keep prs_rrow hBr).rrow (i := j) (by rw [HNL.out]; exact hlt)
      cases e
      have hbx : ∀ t, Bd k ((g.getD j []).getD t 0) := fun t => HBD.out j t
      have hst := HAC.out j hlt
      have hll := HLR.out.1 j hlt
      have hjl := HLR.out.2 j hlt
      rw [HEL.out j hlt] at hst
      obtain ⟨row, hrow⟩ : ∃ z, g.getD j [] = z := ⟨_, rfl⟩
      rw [hrow] at hu hp hbx hst hll hjl
      have HST := Lib.hid hst
      have TC := Lib.hid (fun W (q : Below wr.heap.size wr W) => rrowText_c (.slice ra row.length rc) row k W (IsRow.keep lims_ref hp q) hll hbx hk hjl)
      have zd := cell_lt hu
      have hBw := Below.refl wr.heap.size wr
      clear hp hbx hst hrow hlt hll hjl
      have hz1 : S.size = (A j).length := by rw [hS.out]; simp [ByteArray.size]
      have hz2 := HAL.out (j + 1) (by have := HLT.out; omega)
      have hTE : ∃ T, rowTxt row = T := ⟨_, rfl⟩
      obtain ⟨T, hT⟩ := hTE
      rw [hT] at HST TC
      by_cases h0 : 0 < j
      · have hgt : (0 : Int) < (j : Int) := by omega
        have hz3 : S.size + 1 + T.length ≤ 140737488355329 := by
          rw [HST.out, if_neg (by omega)] at hz2
          simp at hz2
          omega
        have hs1 : ¬ 9223372036854775807 < S.size + 1 := by omega
        have hs2 : ¬ 9223372036854775807 < S.size + 1 + T.length := by omega
        have HS2 := Lib.hid (show S ++ ⟨#[32]⟩ ++ ⟨T.toArray⟩ = ⟨(A (j + 1)).toArray⟩ from by rw [hS.out, HST.out, if_neg (by omega), ba_one, ba_app])
        have hl0 := HLT.out
        clear hz1 hz2 hz3 hT h0
        go_wp2_with fail
        (with_reducible refine (TC.out _ ?_).mono ?_); (repeat (first | exact Below.refl _ _ | exact hBw | refine Below.drew ?_ | refine below_drewN ?_ _ | refine bset ?_ (by simp <;> omega) _ | refine bal ?_ _))
        rintro e w5 ⟨rfl, hb5⟩
        have hB5 := bthen hBr (bthen (show Below wr.heap.size wr _ by repeat (first | exact Below.refl _ _ | exact hBw | refine Below.drew ?_ | refine below_drewN ?_ _ | refine bset ?_ (by simp <;> omega) _ | refine bal ?_ _)) hb5)
        clear TC hb5 hBw hu zd
        go_wp2
        exact ⟨⟨j + 1, _, hl0, by go_num, rfl, HS2, hB5⟩, meas hl0 (by go_num) rfl⟩
      · have hgt : ¬ (0 : Int) < (j : Int) := by omega
        have hz3 : S.size + T.length ≤ 140737488355329 := by
          rw [HST.out, if_pos (by omega)] at hz2
          simp at hz2
          omega
        have hs2 : ¬ 9223372036854775807 < S.size + T.length := by omega
        have HS2 := Lib.hid (show S ++ ⟨T.toArray⟩ = ⟨(A (j + 1)).toArray⟩ from by rw [hS.out, HST.out, if_pos (by omega), ba_app]; simp)
        have hl0 := HLT.out
        clear hz1 hz2 hz3 hT h0
        go_wp2_with fail
        (with_reducible refine (TC.out _ ?_).mono ?_); (repeat (first | exact Below.refl _ _ | exact hBw | refine Below.drew ?_ | refine below_drewN ?_ _ | refine bset ?_ (by simp <;> omega) _ | refine bal ?_ _))
        rintro e w5 ⟨rfl, hb5⟩
        have hB5 := bthen hBr (bthen (show Below wr.heap.size wr _ by repeat (first | exact Below.refl _ _ | exact hBw | refine Below.drew ?_ | refine below_drewN ?_ _ | refine bset ?_ (by simp <;> omega) _ | refine bal ?_ _)) hb5)
        clear TC hb5 hBw hu zd
        go_wp2
        exact ⟨⟨j + 1, _, hl0, by go_num, rfl, HS2, hB5⟩, meas hl0 (by go_num) rfl⟩
    · obtain rfl : n = j := by omega
      have hltI : ¬ (n : Int) < (n : Int) := by omega
      have HS2 := Lib.hid (show S ++ ⟨#[93]⟩ = ⟨(matTxt g).toArray⟩ from by rw [hS.out, ba_one, HFIN.out])
      have hs1 : ¬ 9223372036854775807 < S.size + 1 := by
        have h1 : S.size = (A n).length := by rw [hS.out]; simp [ByteArray.size]
        have h2 := HAL.out n (Nat.le_refl _)
        omega
      go_wp2
      go_ret
      exact ⟨congrArg (fun s => Ending.returned (.string s)) HS2.out, by repeat (first | exact Below.refl _ _ | exact hBr | refine Below.drew ?_ | refine below_drewN ?_ _ | refine bset ?_ (by simp <;> omega) _ | refine bal ?_ _)⟩
end Go.Proofs.YthlphfjmdgcpdaaGreatDoor

/- matrix: Apply. -/
namespace Go.Proofs.YthlphfjmdgcpdaaGreatDoor
open Num
open Go.ChangeShapes Go.WideShapes Go.ChangeAt Go.RowKit
set_option linter.unusedVariables false
set_option linter.unusedSimpArgs false
attribute [local go_sem ↓] Go.wp_at_zero Go.wp_at_succ
/-- what a matrix turns numbers into -/
def applyG (g : Grid) (l : List Int) : List Int := g.map fun r => dotL r l
/-- what Apply answers -/
def AppPost (g : Grid) (l : List Int) (w : World) (e : Ending) (w' : World) : Prop :=
  ((cols g ≠ 0 ∧ l.length = cols g ∧ ∃ v, e = .returned (.tuple #[v, .int .i64 0]) ∧ RowO IsInt 36 w.heap.size w' v (applyG g l)) ∨ (¬ (cols g ≠ 0 ∧ l.length = cols g) ∧ e = .returned (.tuple #[.slice none 0 0, .int .i64 5]))) ∧ Below w.heap.size w w'
theorem app_get {g : Grid} {l : List Int} {i : Nat} (h : i < g.length) : (applyG g l).getD i 0 = dotL (g.getD i []) l := by simp [applyG, h]
set_option maxRecDepth 100000 in
set_option maxHeartbeats 8000000 in
theorem applyM_c (vm vl : Value) (g : Grid) (l : List Int) (k m : Nat) (w : World) (hm : IsM 0 w vm g) (hv : PRow 0 w vl l) (rg : Rct g (cols g)) (hn : g.length ≤ 65536) (hc : cols g ≤ 65536) (hl : l.length ≤ 1099511627775) (bg : BdM k g) (bl : ∀ j, Bd m (l.getD j 0)) (hk : k + m + cols g ≤ 17179869184) :
    Calls Tryz.prog 46 #[vm, vl] w (AppPost g l w) := by
  have HM := Lib.hid hm
  have HV := Lib.hid hv
  have HRG := Lib.hid rg
  have HBD := Lib.hid (And.intro bg bl)
  obtain ⟨a, c, rfl, -⟩ := hm
  obtain ⟨la, lc, rfl, -⟩ := hv
  have COC := Lib.hid (fun V (q : Below w.heap.size w V) => (show Calls Tryz.prog 53 #[.agg #[.slice a g.length c]] V fun e w' => e = .returned (.int .i64 (cols g : Nat)) ∧ Below V.heap.size V w' from by
    obtain ⟨a', c', e, hl⟩ := HM.out.keep q
    cases e
    exact colsM_c _ _ g V hl))
  have hzg : g.length = 0 → cols g = 0 := fun h => by rw [List.length_eq_zero_iff.1 h]; rfl
  have HZG := Lib.hid hzg
  have HAP := Lib.hid (fun i (h : i < g.length) => app_get (l := l) h)
  have HAL := Lib.hid (show (applyG g l).length = g.length by simp [applyG])
  unfold AppPost
  obtain ⟨n, hnE⟩ : ∃ n, g.length = n := ⟨_, rfl⟩
  have HN := Lib.hid hnE
  obtain ⟨cc, hcE⟩ : ∃ n, cols g = n := ⟨_, rfl⟩
  rw [hnE] at COC hn HZG
  rw [hcE] at COC hc hk HRG HZG
  have HCC := Lib.hid hcE
  rw [hnE]
  clear rg bg bl hnE hcE hzg
  have hB := Below.refl w.heap.size w
  by_cases h0 : cc = 0
  · have hI : ((cc : Int) == 0) = true := by simp [h0]
    have HNO := Lib.hid (show ¬ (cols g ≠ 0 ∧ l.length = cols g) from fun h => h.1 (by rw [HCC.out]; exact h0))
    clear h0
    go_enter Tryz.func46, Tryz.ntmps46
    go_wp2_with fail
    (with_reducible refine (COC.out _ ?_).mono ?_); (repeat (first | exact Below.refl _ _ | exact hB | refine Below.drew ?_ | refine below_drewN ?_ _ | refine bset ?_ (by simp <;> omega) _ | refine bal ?_ _))
    rintro e w1 ⟨rfl, hb1⟩
    have hB1 : Below w.heap.size w w1 := bthen (by repeat (first | exact Below.refl _ _ | exact hB | refine Below.drew ?_ | refine below_drewN ?_ _ | refine bset ?_ (by simp <;> omega) _ | refine bal ?_ _)) hb1
    clear COC
    go_wp2
    refine bodyPost_ret (v := .tuple #[.slice none 0 0, .int .i64 5]) (by simp [results, Tryz.results46, go_sem, *]) rfl ⟨.inr ⟨HNO.out, rfl⟩, hB1⟩
  · have hI : ((cc : Int) == 0) = false := by simp; omega
    by_cases hlc : l.length = cc
    · have HYES := Lib.hid (show cols g ≠ 0 ∧ l.length = cols g from by rw [HCC.out]; exact ⟨h0, hlc⟩)
      have hI2 : ((l.length : Int) != (cc : Int)) = false := by simp [hlc]
      have HLC := Lib.hid hlc
      obtain ⟨ll, hll⟩ : ∃ x, l.length = x := ⟨_, rfl⟩
      rw [hll] at hI2 hl HLC
      have HLL := Lib.hid hll
      have hnp : 0 < n := Nat.pos_of_ne_zero fun e => h0 (HZG.out e)
      rw [hll] at hlc
      rw [hll]
      clear h0 hlc hll
      go_enter Tryz.func46, Tryz.ntmps46
      go_wp2_with fail
      (with_reducible refine (COC.out _ ?_).mono ?_); (repeat (first | exact Below.refl _ _ | exact hB | refine Below.drew ?_ | refine below_drewN ?_ _ | refine bset ?_ (by simp <;> omega) _ | refine bal ?_ _))
      rintro e w1 ⟨rfl, hb1⟩
      have m0 : w1.cell? ⟨w.heap.size, 0, none⟩ = some (.slice a n c) := bkc hb1
      have zm0 := cell_lt m0
      have hB : Below w.heap.size w w1 := bthen (by repeat (first | exact Below.refl _ _ | exact hB | refine Below.drew ?_ | refine below_drewN ?_ _ | refine bset ?_ (by simp <;> omega) _ | refine bal ?_ _)) hb1
      have hz : w.heap.size ≤ w1.heap.size := hB.size
      go_wp2_with fail
      (with_reducible refine (COC.out _ ?_).mono ?_); (repeat (first | exact Below.refl _ _ | exact hB | refine Below.drew ?_ | refine below_drewN ?_ _ | refine bset ?_ (by simp <;> omega) _ | refine bal ?_ _))
      rintro e w2 ⟨rfl, hb2⟩
      have m0 : w2.cell? ⟨w.heap.size, 0, none⟩ = some (.slice a n c) := bkc hb2
      have zm0 := cell_lt m0
      have hB : Below w.heap.size w w2 := bthen (by repeat (first | exact Below.refl _ _ | exact hB | refine Below.drew ?_ | refine below_drewN ?_ _ | refine bset ?_ (by simp <;> omega) _ | refine bal ?_ _)) hb2
      have hz : w.heap.size ≤ w2.heap.size := hB.size
      have HM2 := Lib.hid (HM.out.keep hB)
      have HV2 := Lib.hid (HV.out.keep lims_int hB)
      obtain ⟨gb, go, rfl⟩ : ∃ gb go, a = some ⟨gb, go, none⟩ := by
        obtain ⟨gb, go, ra, rc, e, -⟩ := HM.out.rowAt (i := 0) (by rw [HN.out]; exact hnp)
        exact ⟨gb, go, e⟩
      have hB22 := Below.refl w2.heap.size w2
      clear COC hb1 hb2
      go_wp2
      go_loopw [6, 24] (fun v x wr => ∃ i : Nat, i ≤ n ∧ x = .int .i64 i ∧ Hid (OwnF IsInt 36 w2 wr v ((applyG g l).take i).length (fun t => ((applyG g l).take i).getD t 0))) (fun _ x _ => n - (intOf x).toNat)
      case atStart => exact ⟨0, Nat.zero_le _, rfl, Lib.hid (OwnF.nil _ _ _ hB22)⟩
      case round =>
        obtain ⟨i, hi, rfl, hF⟩ := hrel
        have hBr := hF.out.bel
        have hlt' : ((applyG g l).take i).length = i := by rw [List.length_take, HAL.out, HN.out]; omega
        have HLT := Lib.hid hlt'
        obtain ⟨fa, fc, hfv⟩ : ∃ a c, _ = Value.slice a i c := by obtain ⟨a, c, h, _⟩ := hF.out.view; rw [hlt'] at h; exact ⟨a, c, h⟩
        subst hfv
        clear hlt'
        by_cases hlt : i < n
        · have hltI : (i : Int) < (n : Int) := by omega
          have hig : i < g.length := by rw [HN.out]; exact hlt
          obtain ⟨gb2, go2, ra, rc, e2, hu, hp⟩ := (HM2.out.keep hBr).rowAt hig
          obtain ⟨rfl, rfl⟩ : gb = gb2 ∧ go = go2 := by simp at e2; exact e2
          have hrl := HRG.out i hig
          have hbj : ∀ t, Bd k ((g.getD i []).getD t 0) := fun t => HBD.out.1 i t
          have HAI := Lib.hid (HAP.out i hig)
          obtain ⟨row, hrow⟩ : ∃ r, g.getD i [] = r := ⟨_, rfl⟩
          rw [hrow] at hu hp hrl hbj HAI
          have DC := Lib.hid (fun W (q : Below wr.heap.size wr W) => dot_c (.slice ra row.length rc) (.slice la ll lc) row l k m W (hp.keep lims_int q) (by rw [← HLL.out]; exact (HV2.out.keep lims_int (bthen hBr q))) (by rw [hrl]; omega) (by rw [hrl, HLL.out, HLC.out]) hbj HBD.out.2 (by rw [hrl]; exact hk))
          have HTK := Lib.hid (take_getD (l := applyG g l) (k := i) 0 (by rw [HAL.out]; exact hig))
          rw [HAI.out] at HTK
          obtain ⟨z, hz⟩ : ∃ z, dotL row l = z := ⟨_, rfl⟩
          rw [hz] at DC HTK
          rw [hrl] at hu DC
          have zu := cell_lt hu
          have hBw := Below.refl wr.heap.size wr
          clear e2 hp hrow hbj hz hrl
          go_wp2_with fail
          (with_reducible refine (DC.out _ ?_).mono ?_); (repeat (first | exact Below.refl _ _ | exact hBw | refine Below.drew ?_ | refine below_drewN ?_ _ | refine bset ?_ (by simp <;> omega) _ | refine bal ?_ _))
          rintro e w5 ⟨⟨v5, rfl, hi5⟩, hb5⟩
          have hb5' : Below wr.heap.size wr w5 := bthen (by repeat (first | exact Below.refl _ _ | exact hBw | refine Below.drew ?_ | refine below_drewN ?_ _ | refine bset ?_ (by simp <;> omega) _ | refine bal ?_ _)) hb5
          have HF5 := Lib.hid (hF.out.below lims_int hb5')
          have HI5 := Lib.hid hi5
          obtain ⟨n5, a5, c5, l5, rfl, -⟩ := hi5
          unfold iv at *
          clear DC hu hF
          obtain ⟨L, hL⟩ : ∃ L, (applyG g l).take i = L := ⟨_, rfl⟩
          rw [hL] at HF5 HTK HLT
          have hLn : L.length + [z].length ≤ 1099511627776 := by rw [HLT.out]; simp; omega
          clear hL
          go_wp2_with (at_builtin; refine app_cat (l := [z]) (b := w5.heap.size + 1) (off := 0) (by rfl) (by rfl) (HF5.out.below lims_int (bal (bal (Below.refl _ _) _) _)) (fun k hk => by
            have hk0 : k = 0 := by simpa using hk
            subst hk0
            exact ⟨n5, a5, l5.length, c5, cell_new (by simp) rfl, cell_new (by simp) rfl, HI5.out.keep (bal (bal (Below.refl _ _) _) _)⟩) (by rfl) (by rfl) hLn ?_)
          intro v' w8 HO7
          have HF8 := Lib.hid (show OwnF IsInt 36 w2 w8 v' (L ++ [z]).length (fun t => (L ++ [z]).getD t 0) from by rw [List.length_append]; exact HO7.out)
          rw [← HTK.out] at HF8
          clear HO7
          go_wp2
          exact ⟨⟨i + 1, hlt, by go_num, HF8⟩, meas hlt (by go_num) rfl⟩
        · obtain rfl : i = n := by omega
          have HRO := Lib.hid (show RowO IsInt 36 w.heap.size wr _ (applyG g l) from (OwnF.rowO (w0 := w2) (by have h := hF.out; rw [List.take_of_length_le (by rw [HAL.out, HN.out]; exact Nat.le_refl _)] at h; exact h)).rebase hB.size)
          have hB5 := bthen hB hBr
          clear hF
          go_wp2
          refine bodyPost_ret (v := .tuple #[.slice fa i fc, .int .i64 0]) (by simp [results, Tryz.results46, go_sem, *]) rfl ⟨.inl ⟨HYES.out.1, by rw [← HYES.out.2, HLL.out], _, rfl, HRO.out⟩, hB5⟩
    · have hI2 : ((l.length : Int) != (cc : Int)) = true := by simp; omega
      have HNO := Lib.hid (show ¬ (cols g ≠ 0 ∧ l.length = cols g) from fun h => hlc (by rw [← HCC.out]; exact h.2))
      clear h0 hlc
      go_enter Tryz.func46, Tryz.ntmps46
      go_wp2_with fail
      (with_reducible refine (COC.out _ ?_).mono ?_); (repeat (first | exact Below.refl _ _ | exact hB | refine Below.drew ?_ | refine below_drewN ?_ _ | refine bset ?_ (by simp <;> omega) _ | refine bal ?_ _))
      rintro e w1 ⟨rfl, hb1⟩
      have m0 : w1.cell? ⟨w.heap.size, 0, none⟩ = some (.slice a n c) := bkc hb1
      have zm0 := cell_lt m0
      have hB : Below w.heap.size w w1 := bthen (by repeat (first | exact Below.refl _ _ | exact hB | refine Below.drew ?_ | refine below_drewN ?_ _ | refine bset ?_ (by simp <;> omega) _ | refine bal ?_ _)) hb1
      have hz : w.heap.size ≤ w1.heap.size := hB.size
      go_wp2_with fail
      (with_reducible refine (COC.out _ ?_).mono ?_); (repeat (first | exact Below.refl _ _ | exact hB | refine Below.drew ?_ | refine below_drewN ?_ _ | refine bset ?_ (by simp <;> omega) _ | refine bal ?_ _))
      rintro e w2 ⟨rfl, hb2⟩
      have m0 : w2.cell? ⟨w.heap.size, 0, none⟩ = some (.slice a n c) := bkc hb2
      have zm0 := cell_lt m0
      have hB : Below w.heap.size w w2 := bthen (by repeat (first | exact Below.refl _ _ | exact hB | refine Below.drew ?_ | refine below_drewN ?_ _ | refine bset ?_ (by simp <;> omega) _ | refine bal ?_ _)) hb2
      have hz : w.heap.size ≤ w2.heap.size := hB.size
      clear COC
      go_wp2
      refine bodyPost_ret (v := .tuple #[.slice none 0 0, .int .i64 5]) (by simp [results, Tryz.results46, go_sem, *]) rfl ⟨.inr ⟨HNO.out, rfl⟩, hB⟩
end Go.Proofs.YthlphfjmdgcpdaaGreatDoor

/- matrices, plain: the laws of sums and products. -/
namespace Go.Proofs.YthlphfjmdgcpdaaGreatDoor
open Num
set_option linter.unusedVariables false
set_option linter.unusedSimpArgs false
theorem times_len (g h : Grid) : (timesG g h).length = g.length := tab_len _ _ _
theorem times_cols {g h : Grid} (hg : 0 < g.length) : cols (timesG g h) = cols h := tab_cols _ hg
theorem times_rct (g h : Grid) : Rct (timesG g h) (cols h) := tab_rect _ _ _
theorem plus_len (g h : Grid) : (plusG g h).length = g.length := tab_len _ _ _
theorem plus_cols {g h : Grid} (hg : 0 < g.length) : cols (plusG g h) = cols g := tab_cols _ hg
/-- the sum of products, by places -/
theorem dotL_isum : ∀ (a b : List Int), a.length = b.length → dotL a b = Det.isum a.length fun t => a.getD t 0 * b.getD t 0 := by
  intro a b h
  have key : ∀ n, n ≤ a.length → dotL (a.take n) (b.take n) = Det.isum n fun t => a.getD t 0 * b.getD t 0 := by
    intro n
    induction n with
    | zero => intro _; rfl
    | succ n ih =>
      intro hn
      have e1 : a.take (n + 1) = a.take n ++ [a.getD n 0] := take_getD 0 (by omega)
      have e2 : b.take (n + 1) = b.take n ++ [b.getD n 0] := take_getD 0 (by omega)
      show dotL (a.take (n + 1)) (b.take (n + 1)) = Det.isum n _ + a.getD n 0 * b.getD n 0
      rw [e1, e2, ← ih (by omega)]
      unfold dotL
      rw [List.zipWith_append (by rw [List.length_take, List.length_take, h])]
      show sumL (_ ++ [a.getD n 0 * b.getD n 0]) = _
      rw [sumL_snoc]
  have := key a.length (Nat.le_refl _)
  rw [List.take_length, h, List.take_length] at this
  rw [h]; exact this
theorem app_len (g : Grid) (l : List Int) : (applyG g l).length = g.length := by simp [applyG]
theorem app_at {g : Grid} {l : List Int} {m i : Nat} (hr : Rct g m) (hl : l.length = m) (hi : i < g.length) : (applyG g l).getD i 0 = Det.isum m fun t => gat g i t * l.getD t 0 := by
  rw [app_get hi, dotL_isum _ _ (by rw [hr i hi, hl]), hr i hi]; rfl
end Go.Proofs.YthlphfjmdgcpdaaGreatDoor

/- matrix's laws: rows, made. -/
namespace Go.Proofs.YthlphfjmdgcpdaaGreatDoor
open Num
open Go.ChangeShapes Go.WideShapes Go.ChangeAt Go.RowKit
set_option linter.unusedVariables false
set_option linter.unusedSimpArgs false
attribute [local go_sem ↓] Go.wp_at_zero Go.wp_at_succ
set_option maxRecDepth 100000 in
set_option maxHeartbeats 4000000 in
theorem rows5_c (v : Value) (g : Grid) (w : World) (hv : GridI w v g) (hg : g.length ≤ 1048576) (hl : ∀ k, k < g.length → (g.getD k []).length ≤ 1048576) :
    Calls Tryz.prog 19 #[v] w fun e w' => (∃ u, e = .returned u ∧ OwnL 59 (RowO IsInt 36 w.heap.size) w w' u g) ∧ Below w.heap.size w w' := by
  obtain ⟨ga, gc, rfl, hv⟩ := hv
  have HV := Lib.hid hv
  have HL := Lib.hid hl
  clear hv hl
  have hB := Below.refl w.heap.size w
  go_enter Tryz.func19, Tryz.ntmps19
  go_wp2
  go_loopw [3, 8] (fun v x wr => ∃ k : Nat, k ≤ g.length ∧ x = .int .i64 k ∧ Hid (OwnL 59 (RowO IsInt 36 w.heap.size) w wr v (g.take k))) (fun _ x _ => g.length - (intOf x).toNat)
  case atStart => exact ⟨0, Nat.zero_le _, rfl, Lib.hid (OwnL.nil _ _ hB)⟩
  case round =>
    obtain ⟨k, hk, rfl, hO⟩ := hrel
    have hBr := hO.out.bel
    have hlen : (g.take k).length = k := by rw [List.length_take]; omega
    have HLEN := Lib.hid hlen
    obtain ⟨va, vc, hvv⟩ := hO.out.ex
    rw [hlen] at hvv
    subst hvv
    clear hlen
    by_cases hlt : k < g.length
    · have hltI : (k : Int) < (g.length : Int) := by omega
      obtain ⟨gb, go, u, rfl, hu, hrow⟩ := HV.out k hlt
      have hr2 := hrow.keep hBr
      obtain ⟨ra, rc, rfl, -⟩ := hrow
      have hl3 := HL.out k hlt
      have HT := Lib.hid (take_getD [] hlt)
      have hu2 := bkeep hBr hu
      obtain ⟨l, hle⟩ : ∃ l, g.getD k [] = l := ⟨_, rfl⟩
      rw [hle] at hr2 hu2 hl3 HT
      have zu := cell_lt hu2
      have lc := fun W (q : Below wr.heap.size wr W) => list_c (.slice ra l.length rc) l W (hr2.keep q) (by omega)
      have LC := Lib.hid lc
      have hLL : ((g.take k).length + 1) * 24 ≤ 140737488355328 := by rw [HLEN.out]; omega
      have hLM : (g.take k).length + 1 ≤ maxLen := by rw [HLEN.out]; unfold maxLen; omega
      have hBw := Below.refl wr.heap.size wr
      clear hu hr2 hle lc
      go_wp2_with fail
      (with_reducible refine (LC.out _ ?_).mono ?_); (repeat (first | exact Below.refl _ _ | exact hBw | refine Below.drew ?_ | refine below_drewN ?_ _ | refine bset ?_ (by simp <;> omega) _ | refine bal ?_ _))
      rintro e w5 ⟨⟨v5, rfl, hr5⟩, hb5⟩
      have hb5' : Below wr.heap.size wr w5 := bthen (by repeat (first | exact Below.refl _ _ | exact hBw | refine Below.drew ?_ | refine below_drewN ?_ _ | refine bset ?_ (by simp <;> omega) _ | refine bal ?_ _)) hb5
      have HR5 := Lib.hid (show RowO IsInt 36 w.heap.size w5 v5 l from hr5.rebase (show w.heap.size ≤ _ from Nat.le_trans hBr.size (show Below wr.heap.size wr _ by repeat (first | exact Below.refl _ _ | exact hBw | refine Below.drew ?_ | refine below_drewN ?_ _ | refine bset ?_ (by simp <;> omega) _ | refine bal ?_ _)).size))
      have HO5 := Lib.hid (hO.out.below (prs_rowO lims_int _ _) hb5')
      obtain ⟨a5, c5, rfl⟩ := hr5.ex
      clear LC hr5 hb5 hO
      go_wp2_with (at_builtin; refine appL elRow (prs_rowO lims_int _ _) (by decide) (by rfl) (by rfl) (HO5.out.below (prs_rowO lims_int _ _) (bal (Below.refl _ _) _)) (HR5.out.keep lims_int (bal (Below.refl _ _) _)) (by rfl) (by rfl) (cell_new (by simp) rfl) hLL hLM ?_)
      intro v' w8 hO8 hk8
      have HO8 := Lib.hid hO8
      rw [← HT.out] at HO8
      clear hO8 hk8
      go_wp2
      exact ⟨⟨k + 1, hlt, by go_num, HO8⟩, meas hlt (by go_num) rfl⟩
    · obtain rfl : k = g.length := by omega
      rw [List.take_length] at hO
      go_wp2
      go_ret
      exact ⟨⟨_, rfl, hO.out⟩, hBr⟩
end Go.Proofs.YthlphfjmdgcpdaaGreatDoor

/- row: Cmp, Same; matrix: Same. -/
namespace Go.Proofs.YthlphfjmdgcpdaaGreatDoor
open Num
open Go.ChangeShapes Go.WideShapes Go.ChangeAt Go.RowKit
set_option linter.unusedVariables false
set_option linter.unusedSimpArgs false
attribute [local go_sem ↓] Go.wp_at_zero Go.wp_at_succ
theorem list_ext {α : Type} {a b : List α} {d : α} (h : a.length = b.length) (he : ∀ t, t < a.length → a.getD t d = b.getD t d) : a = b := by
  apply List.ext_getElem h
  intro i h1 h2
  have := he i h1
  simpa [h1, h2] using this
/-- a comparison of rows -/
def CmpOk (c : Int) (a b : List Int) : Prop := c = 0 ↔ a = b
theorem cmpI_zero {x y : Int} : cmpI x y = 0 ↔ x = y := by
  unfold cmpI
  split
  · constructor
    · intro h; cases h
    · intro h; omega
  · split
    · simp [*]
    · constructor
      · intro h; cases h
      · intro h; contradiction
set_option maxRecDepth 100000 in
set_option maxHeartbeats 8000000 in
theorem rowCmp_c (va vb : Value) (la lb : List Int) (w : World) (ha : PRow 0 w va la) (hb : PRow 0 w vb lb) (hla : la.length ≤ 1099511627775) (hlb : lb.length ≤ 1099511627775) :
    Calls Tryz.prog 120 #[va, vb] w fun e w' => (∃ c : Int, e = .returned (.int .i64 c) ∧ CmpOk c la lb) ∧ Below w.heap.size w w' := by
  have HA := Lib.hid ha
  have HBB := Lib.hid hb
  obtain ⟨aa, ca, rfl, -⟩ := ha
  obtain ⟨ab, cb, rfl, -⟩ := hb
  have hB := Below.refl w.heap.size w
  rcases Nat.lt_trichotomy la.length lb.length with hl | hl | hl
  · have hI : (la.length : Int) < (lb.length : Int) := by omega
    have HNE := Lib.hid (show CmpOk (-1) la lb from Iff.intro (fun h => absurd h (by decide)) (fun h => absurd hl (by rw [h]; exact Nat.lt_irrefl _)))
    go_enter Tryz.func120, Tryz.ntmps120
    go_wp2
    go_ret
    exact ⟨⟨_, rfl, HNE.out⟩, by repeat (first | exact Below.refl _ _ | exact hB | refine Below.drew ?_ | refine below_drewN ?_ _ | refine bset ?_ (by simp <;> omega) _ | refine bal ?_ _)⟩
  · have HLE := Lib.hid hl
    obtain ⟨n, hn⟩ : ∃ n, la.length = n := ⟨_, rfl⟩
    have hn2 : lb.length = n := by rw [← hl]; exact hn
    have HN := Lib.hid (And.intro hn hn2)
    rw [hn] at hla ⊢
    rw [hn2]
    clear hl hn hn2 hlb
    have hI1 : ¬ (n : Int) < (n : Int) := by omega
    go_enter Tryz.func120, Tryz.ntmps120
    go_wp2
    go_loopw [22] (fun x wr => ∃ j : Nat, j ≤ n ∧ x = .int .i64 j ∧ Below w.heap.size w wr ∧ Hid (∀ t, t < j → la.getD t 0 = lb.getD t 0)) (fun x _ => n - (intOf x).toNat)
    case atStart => exact ⟨0, Nat.zero_le _, rfl, hB, Lib.hid (fun t ht => by omega)⟩
    case round =>
      obtain ⟨j, hj, rfl, hBr, hE⟩ := hrel
      by_cases hlt : j < n
      · have hltI : (j : Int) < (n : Int) := by omega
        obtain ⟨a', c', he, -, vr⟩ := (HA.out.keep lims_int hBr).view
        obtain ⟨rfl, -, rfl⟩ := Value.slice.inj he
        obtain ⟨b', d', he2, -, vs⟩ := (HBB.out.keep lims_int hBr).view
        obtain ⟨rfl, -, rfl⟩ := Value.slice.inj he2
        obtain ⟨rb, ro, n3, a3, l3, c3, rfl, r0, r1, hi⟩ := vr j (by rw [HN.out.1]; exact hlt)
        obtain ⟨sb, so, n4, a4, l4, c4, rfl, s0, s1, hi2⟩ := vs j (by rw [HN.out.2]; exact hlt)
        have HI := Lib.hid (And.intro hi hi2)
        have kc := fun W (q : Below wr.heap.size wr W) => cmp_c _ _ (la.getD j 0) (lb.getD j 0) W (HI.out.1.keep q) (HI.out.2.keep q)
        obtain ⟨c, hc⟩ : ∃ c, cmpI (la.getD j 0) (lb.getD j 0) = c := ⟨_, rfl⟩
        have HC := Lib.hid hc
        rw [hc] at kc
        have KC := Lib.hid kc
        have zr := cell_lt r0
        have zs := cell_lt s0
        clear hc kc hi hi2 vr vs he he2
        have hBw := Below.refl wr.heap.size wr
        go_wp2
        refine wp_name fun w3 hW3 => ?_
        have hb3 : Below wr.heap.size wr w3 := by rw [hW3]; repeat (first | exact Below.refl _ _ | exact hBw | refine Below.drew ?_ | refine below_drewN ?_ _ | refine bset ?_ (by simp <;> omega) _ | refine bal ?_ _)
        obtain ⟨x0, x1⟩ : w3.cell? ⟨wr.heap.size, 0, none⟩ = some (.bool n3) ∧ w3.cell? ⟨wr.heap.size, 1, none⟩ = some (.slice a3 l3 c3) := by rw [hW3]; simp [go_sem]
        replace s0 := bkeep hb3 s0
        replace s1 := bkeep hb3 s1
        clear hW3 r0 r1
        have zx := cell_lt x0
        replace zs := cell_lt s0
        have HS := Lib.hid (show ∀ W, Below w3.heap.size w3 W → W.cell? ⟨wr.heap.size, 0, none⟩ = some (.bool n3) ∧ W.cell? ⟨wr.heap.size, 1, none⟩ = some (.slice a3 l3 c3) ∧ W.cell? ⟨sb, so + j * 2, none⟩ = some (.bool n4) ∧ W.cell? ⟨sb, so + j * 2 + 1, none⟩ = some (.slice a4 l4 c4) from fun W q => ⟨bkeep q x0, bkeep q x1, bkeep q s0, bkeep q s1⟩)
        have hBx := Below.refl w3.heap.size w3
        go_region_held3 (fun W => W.cell? ⟨wr.heap.size, 0, none⟩ = some (.bool n3) ∧ W.cell? ⟨wr.heap.size, 1, none⟩ = some (.slice a3 l3 c3) ∧ W.cell? ⟨sb, so + j * 2, none⟩ = some (.bool n4) ∧ W.cell? ⟨sb, so + j * 2 + 1, none⟩ = some (.slice a4 l4 c4))
          (first | (refine HS.out _ ?_; (repeat (first | exact Below.refl _ _ | exact hBx | refine Below.drew ?_ | refine below_drewN ?_ _ | refine bset ?_ (by simp <;> omega) _ | refine bal ?_ _)); done) | fail)
          (first
          | (go_at_call 123; (with_reducible refine (KC.out _ ?_).mono ?_); (refine bthen hb3 ?_; (repeat (first | exact Below.refl _ _ | exact hBx | refine Below.drew ?_ | refine below_drewN ?_ _ | refine bset ?_ (by simp <;> omega) _ | refine bal ?_ _))); rintro e w5 ⟨rfl, hb5⟩; (have hBd : Below w3.heap.size w3 w5 := bthen (by repeat (first | exact Below.refl _ _ | exact hBx | refine Below.drew ?_ | refine below_drewN ?_ _ | refine bset ?_ (by simp <;> omega) _ | refine bal ?_ _)) hb5; clear hBx; have hBx := hBd; clear hBd))
          | fail)
        all_goals
          have hB5 := bthen hBr (bthen hb3 hBx)
          by_cases hc0 : c = 0
          · have hcI : (c != 0) = false := by simp [hc0]
            have HE2 := Lib.hid (show ∀ t, t < j + 1 → la.getD t 0 = lb.getD t 0 from fun t ht => by
              by_cases e : t = j
              · subst e; exact cmpI_zero.1 (by rw [HC.out]; exact hc0)
              · exact hE.out t (by omega))
            clear hc0 x0 x1 s0 s1 HS
            go_wp2
            exact ⟨⟨j + 1, hlt, by go_num, hB5, HE2⟩, meas hlt (by go_num) rfl⟩
          · have hcI : (c != 0) = true := by simp [hc0]
            have HNE := Lib.hid (show CmpOk c la lb from ⟨fun h => absurd h hc0, fun h => by rw [← HC.out, h]; exact cmpI_zero.2 rfl⟩)
            clear hc0 x0 x1 s0 s1 HS
            go_wp2
            go_ret
            exact ⟨⟨_, rfl, HNE.out⟩, hB5⟩
      · obtain rfl : j = n := by omega
        have HEQ := Lib.hid (show CmpOk 0 la lb from ⟨fun _ => list_ext (d := 0) HLE.out (fun t ht => hE.out t (by rw [← HN.out.1]; exact ht)), fun _ => rfl⟩)
        go_wp2
        go_ret
        exact ⟨⟨_, rfl, HEQ.out⟩, hBr⟩
  · have hI : (lb.length : Int) < (la.length : Int) := by omega
    have hI2 : ¬ (la.length : Int) < (lb.length : Int) := by omega
    have HNE := Lib.hid (show CmpOk 1 la lb from Iff.intro (fun h => absurd h (by decide)) (fun h => absurd hl (by rw [h]; exact Nat.lt_irrefl _)))
    go_enter Tryz.func120, Tryz.ntmps120
    go_wp2
    go_ret
    exact ⟨⟨_, rfl, HNE.out⟩, by repeat (first | exact Below.refl _ _ | exact hB | refine Below.drew ?_ | refine below_drewN ?_ _ | refine bset ?_ (by simp <;> omega) _ | refine bal ?_ _)⟩
set_option maxRecDepth 100000 in
set_option maxHeartbeats 2000000 in
theorem rowSame_c (va vb : Value) (la lb : List Int) (w : World) (ha : PRow 0 w va la) (hb : PRow 0 w vb lb) (hla : la.length ≤ 1099511627775) (hlb : lb.length ≤ 1099511627775) :
    Calls Tryz.prog 75 #[va, vb] w fun e w' => e = .returned (.bool (decide (la = lb))) ∧ Below w.heap.size w w' := by
  have kc := Lib.hid (fun W (q : Below w.heap.size w W) => rowCmp_c va vb la lb W (ha.keep lims_int q) (hb.keep lims_int q) hla hlb)
  obtain ⟨aa, ca, rfl, -⟩ := ha
  obtain ⟨ab, cb, rfl, -⟩ := hb
  have hB := Below.refl w.heap.size w
  obtain ⟨q, hq⟩ : ∃ q, decide (la = lb) = q := ⟨_, rfl⟩
  have HQ := Lib.hid hq
  rw [hq]
  clear hq
  go_enter Tryz.func75, Tryz.ntmps75
  go_wp2_with fail
  (with_reducible refine (kc.out _ ?_).mono ?_); (repeat (first | exact Below.refl _ _ | exact hB | refine Below.drew ?_ | refine below_drewN ?_ _ | refine bset ?_ (by simp <;> omega) _ | refine bal ?_ _))
  rintro e w1 ⟨⟨c, rfl, hc⟩, hb1⟩
  have hB1 : Below w.heap.size w w1 := bthen (by repeat (first | exact Below.refl _ _ | exact hB | refine Below.drew ?_ | refine below_drewN ?_ _ | refine bset ?_ (by simp <;> omega) _ | refine bal ?_ _)) hb1
  have hcq : (c == 0) = q := by
    rw [← HQ.out]
    by_cases h : c = 0
    · simp [h, hc.1 h]
    · have : ¬ la = lb := fun e => h (hc.2 e)
      simp [h, this]
  clear kc hc
  go_wp2
  go_ret
  exact ⟨rfl, hB1⟩
end Go.Proofs.YthlphfjmdgcpdaaGreatDoor

