/- Texts of this seat, laid together: EvQ, EvJ, EvK, EvM, EvU. Each opens with its own remark, which says what it proves, and under which conditions. -/
import Derived.Test.YtdllbdfchloijaaGreatDoorW24
import Derived.Test.YtdllbdfchloijaaGreatDoorW15
import Derived.Test.YtdllbdfchloijaaGreatDoorW22
import Derived.Test.YtdllbdfchloijaaGreatDoorW10
import Derived.Test.YtdllbdfchloijaaGreatDoorW19
import Derived.Test.YtdllbdfchloijaaGreatDoorW17
import Derived.Test.YtdllbdfchloijaaGreatDoorW07
import Derived.Test.YtdllbdfchloijaaGreatDoorW14
import Derived.Test.YtdllbdfchloijaaGreatDoorW18
import Derived.Test.YtdllbdfchloijaaGreatDoorW21
import Derived.Test.YtdllbdfchloijaaGreatDoorW05
set_option linter.unusedVariables false
set_option linter.unusedSimpArgs false
/- eval, in plain Lean: whether a program evaluates; the one that is told does. -/
namespace Go.Proofs.YtdllbdfchloijaaGreatDoor
open Num
open Det (isum isum_congr hv pf is_one)
set_option linter.unusedVariables false
set_option linter.unusedSimpArgs false
/-- rows with a 1 each -/
def unitG (k : Nat) : Grid := (List.range k).map fun i => (List.range k).map fun j => if j = i then (1 : Int) else 0
theorem unitG_len (k : Nat) : (unitG k).length = k := by simp [unitG]
theorem unitG_row {k i : Nat} (h : i < k) : (unitG k).getD i [] = (List.range k).map fun j => if j = i then (1 : Int) else 0 := by simp [unitG, h]
theorem unitG_rect (k : Nat) : Rect k (unitG k) := fun i hi => by
  rw [unitG_len] at hi
  rw [unitG_row hi]; simp
theorem unitG_bd (k : Nat) : BdG 1 (unitG k) := fun i j => by
  by_cases hi : i < k
  · rw [unitG_row hi]
    by_cases hj : j < k
    · rw [show ((List.range k).map fun j => if j = i then (1 : Int) else 0).getD j 0 = if j = i then 1 else 0 by simp [hj]]
      unfold Bd; split <;> decide
    · rw [List.getD_eq_getElem?_getD, List.getElem?_eq_none (by simp; omega)]; exact bd_zero
  · rw [List.getD_eq_getElem?_getD (l := unitG k), List.getElem?_eq_none (by rw [unitG_len]; omega)]; exact bd_zero
theorem start_rect {m R : Nat} {g : Grid} (h : Rect m g) (hl : g.length ≤ R) : Rect m (startG g R m) := fun i hi => by
  unfold startG at hi ⊢
  by_cases e : i < g.length
  · rw [List.getD_eq_getElem?_getD, List.getElem?_append_left e, ← List.getD_eq_getElem?_getD]; exact h i e
  · rw [List.length_append, List.length_replicate] at hi
    rw [List.getD_eq_getElem?_getD, List.getElem?_append_right (by omega), List.getElem?_replicate, if_pos (by omega)]; simp
theorem start_col {m R j : Nat} {g : Grid} (hj : j < m) : colG (startG g R m) j = startN (colG g j) R := by
  unfold colG startG startN
  rw [List.map_append, List.map_replicate, List.length_map]
  congr 2
  simp [hj]
/-- no instruction that may fail -/
def NoDiv (code : List Ins) : Prop := ∀ n, n < code.length → (code.getD n default).op ≠ 6 ∧ (code.getD n default).op ≠ 8
theorem opI_some (i : Ins) (a b : Int) (h : i.op ≠ 6 ∧ i.op ≠ 8) : ∃ x, opI i a b = some x := by
  unfold opI
  repeat' split
  all_goals first | exact ⟨_, rfl⟩ | (exfalso; omega)
theorem nodiv_after {code : List Ins} (g : Grid) (h : NoDiv code) : ∀ n, n ≤ code.length → ∃ s, after code g n = some s := by
  intro n
  induction n with
  | zero => intro _; exact ⟨g, rfl⟩
  | succ n ih =>
    intro hn
    obtain ⟨s, hs⟩ := ih (by omega)
    rw [after, hs, Option.bind_some]
    cases e : stepR (code.getD n default) (s.getD (code.getD n default).a.toNat []) (s.getD (code.getD n default).b.toNat []) with
    | some r => exact ⟨_, rfl⟩
    | none =>
      obtain ⟨k, _, h2⟩ := stepR_none e
      obtain ⟨x, hx⟩ := opI_some (code.getD n default) _ _ (h n (by omega))
      rw [hx] at h2; cases h2
/-- whether a program's outs are the powers of the points -/
def Evs (code : List Ins) (outs : List Int) (R k n : Nat) (f : Nat → Int × Int) : Prop :=
  ∀ s, after code (startG (unitG k) R k) code.length = some s → ∀ i, i < n → ∀ j, j < k → gat (outsG outs s) i j = pf (f i).1 (f i).2 k j
theorem hv_unit {k j : Nat} (hj : j < k) (a b : Int) : hv k (fun i => if j = i then 1 else 0) a b = pf a b k j := by
  unfold hv
  rw [is_one hj (fun m _ h => by dsimp only; rw [if_neg (Ne.symm h), Int.zero_mul])]
  dsimp only; rw [if_pos rfl, Int.one_mul]
theorem colG_unit {k j : Nat} (hj : j < k) : colG (unitG k) j = (List.range k).map fun i => if j = i then (1 : Int) else 0 := by
  unfold colG unitG
  rw [List.map_map]
  apply List.map_congr_left
  intro i _
  simp [hj]
theorem fine_all {k n : Nat} {f : Nat → Int × Int} (hq : ∀ i, i < n → Pt.PIn (f i).1 (f i).2) : ∀ m, m < (codeL k n f n).length → Fine (k + n + 1) k ((codeL k n f n).getD m default) := fun m hm => by
  rw [show (codeL k n f n).getD m default = (codeL k n f n)[m] by simp [hm]]
  exact fine_code f hq n (Nat.le_refl _) _ (List.getElem_mem hm)
theorem code_nodiv {k n : Nat} {f : Nat → Int × Int} (hq : ∀ i, i < n → Pt.PIn (f i).1 (f i).2) : NoDiv (codeL k n f n) := fun m hm => ⟨(fine_all hq m hm).2.1, (fine_all hq m hm).2.2.1⟩
/-- the program that is told evaluates -/
theorem code_evs {k n : Nat} {f : Nat → Int × Int} (hk : 1 ≤ k) (hq : ∀ i, i < n → Pt.PIn (f i).1 (f i).2) : Evs (codeL k n f n) (outsL k n) (k + n + 1) k n f := by
  intro s hs i hi j hj
  have hgl : (startG (unitG k) (k + n + 1) k).length = k + n + 1 := startG_len (by rw [unitG_len]; omega)
  have hc := col_after (start_rect (unitG_rect k) (by rw [unitG_len]; omega)) hgl (fun m hm => by
    have := (mayB_iff ..).1 (fine_all hq m hm).1
    omega) hj (Nat.le_refl _) hs
  rw [start_col hj, colG_unit hj] at hc
  obtain ⟨u, h1, h2⟩ := outs_run k n f (fun i => if j = i then 1 else 0) (startN ((List.range k).map fun i => if j = i then (1 : Int) else 0) (k + n + 1)) hk (by simp [startN]; omega) (fun i hi => by
    unfold startN
    rw [List.getD_eq_getElem?_getD, List.getElem?_append_left (by simpa using hi)]
    simp [hi])
  rw [hc] at h1
  cases h1
  have := h2 i hi
  rw [hv_unit hj, colG_get] at this
  rw [← this]
  unfold gat outsG
  rw [show ((outsL k n).map fun k => s.getD k.toNat []).getD i [] = s.getD ((outsL k n).getD i 0).toNat [] by simp [outsL_len, hi], outsL_get hi]
end Go.Proofs.YtdllbdfchloijaaGreatDoor

/- eval: units; the reference's Units. -/
namespace Go.Proofs.YtdllbdfchloijaaGreatDoor
open Pt
open Num
open Go.ChangeShapes Go.WideShapes Go.ChangeAt Go.RowKit
set_option linter.unusedVariables false
set_option linter.unusedSimpArgs false
attribute [local go_sem ↓] Go.wp_at_zero Go.wp_at_succ
theorem unit_take {k i : Nat} (h : i < k) : (unitG k).take i ++ [(unitG k).getD i []] = (unitG k).take (i + 1) := by
  have hl : i < (unitG k).length := by rw [unitG_len]; exact h
  rw [List.take_succ_eq_append_getElem hl]
  simp [hl]
theorem unit_at {k i : Nat} (h : i < k) : ∀ j, j < k → (fun m => if m = i then (1 : Int) else 0) j = ((unitG k).getD i []).getD j 0 := fun j hj => by
  rw [unitG_row h]; simp [hj]
theorem unit_rl {k i : Nat} (h : i < k) : ((unitG k).getD i []).length = k := by rw [unitG_row h]; simp
/-- a row of a made block -/
theorem row_made {R : World → Value → Int → Prop} {E : TypeId} {w : World} {base g k : Nat} {F : Nat → Int} {l : List Int} (h : IntsF R w g 0 k F) (ht : typOf w g = some E) (hk : k ≤ maxLen) (hg : base ≤ g) (hl : l.length = k) (he : ∀ j, j < k → F j = l.getD j 0) : IsRow R E base w (.slice (some ⟨g, 0, none⟩) k k) l := by
  subst hl
  exact ⟨_, _, rfl, Nat.le_refl _, hk, .inr ⟨g, 0, rfl, hg, ht, h.congr he⟩⟩
set_option maxRecDepth 100000 in
set_option maxHeartbeats 8000000 in
theorem units_c (k : Nat) (w : World) (hk : k ≤ 8) :
    Calls Tryz.prog 46 #[.int .i64 (k : Int)] w fun e w' => (∃ v, e = .returned v ∧ OwnL 43 (PRow w.heap.size) w w' v (unitG k)) ∧ Below w.heap.size w w' := by
  have hmk := mkInts k (by omega)
  have oc := fun W => of_c 1 W (by decide) (by decide)
  have HU := Lib.hid (unitG_len k)
  have HP := Lib.hid (prs_row lims_int 50 w.heap.size)
  have hB := Below.refl w.heap.size w
  go_enter Tryz.func46, Tryz.ntmps46
  go_wp2
  go_loopw [3, 7] (fun v x wr => ∃ i : Nat, i ≤ k ∧ x = .int .i64 i ∧ Hid (OwnL 43 (PRow w.heap.size) w wr v ((unitG k).take i))) (fun _ x _ => k - (intOf x).toNat)
  case atStart => exact ⟨0, Nat.zero_le _, rfl, Lib.hid (OwnL.nil _ _ hB)⟩
  case round =>
    obtain ⟨i, hi, rfl, hO⟩ := hrel
    obtain ⟨va, vc, hv⟩ := hO.out.ex
    have hl : ((unitG k).take i).length = i := by rw [List.length_take, HU.out]; omega
    rw [hl] at hv
    subst hv
    by_cases hlt : i < k
    · have hltI : (i : Int) < (k : Int) := by omega
      have HLT := Lib.hid hlt
      have HT := Lib.hid (unit_take hlt)
      have HRL := Lib.hid (And.intro (unit_rl hlt) (unit_at hlt))
      obtain ⟨row, hrow⟩ : ∃ r, (unitG k).getD i [] = r := ⟨_, rfl⟩
      rw [hrow] at HT HRL
      clear hrow
      have hBr := hO.out.bel
      have hBq := Below.refl wr.heap.size wr
      clear hl
      go_wp2_with fail
      refine (oc _).mono ?_
      rintro e w5 ⟨⟨v5, rfl, hi5⟩, hb5⟩
      have hk5 : Below wr.heap.size wr w5 := bthen (by repeat (first | exact Below.refl _ _ | exact hBq | refine Below.drew ?_ | refine below_drewN ?_ _ | refine bset ?_ (by simp <;> omega) _ | refine bal ?_ _)) hb5
      have HI := IntsF.keep lims_int (zcel_ints isInt_zero wr k 50 rfl) hb5
      have HF := (Free.new (w := wr) (c := zcel k) (t := 50) rfl).keep hb5
      have HTy := typ_keep (typ_fresh (w := wr) (c := zcel k) (t := 50) rfl) hb5
      obtain ⟨zn, za, zl, zc, z0, z1, -⟩ := HI.at0 hlt
      have z0f := HF.2 (i * 2)
      have z1f := HF.2 (i * 2 + 1)
      have zz := cell_lt z0
      have HX := Lib.hid (show ∀ (n : Bool) a l c, IsInt w5 (.agg #[.bool n, .slice a l c]) 1 → OwnL 43 (PRow w.heap.size) w ((w5.setCell ⟨wr.heap.size, i * 2, none⟩ (.bool n)).setCell ⟨wr.heap.size, i * 2 + 1, none⟩ (.slice a l c)) (.slice va i vc) ((unitG k).take i) ∧ PRow w.heap.size ((w5.setCell ⟨wr.heap.size, i * 2, none⟩ (.bool n)).setCell ⟨wr.heap.size, i * 2 + 1, none⟩ (.slice a l c)) (.slice (some ⟨wr.heap.size, 0, none⟩) k k) row from fun n a l c h => by
        have hbb : Below wr.heap.size wr ((w5.setCell ⟨wr.heap.size, i * 2, none⟩ (.bool n)).setCell ⟨wr.heap.size, i * 2 + 1, none⟩ (.slice a l c)) := bset (bset hk5 (p := ⟨wr.heap.size, i * 2, none⟩) (Nat.le_refl _) _) (p := ⟨wr.heap.size, i * 2 + 1, none⟩) (Nat.le_refl _) _
        exact ⟨hO.out.below HP.out hbb, row_made (HI.store0 lims_int hlt h) (by rw [typ_set, typ_set]; exact HTy) (by unfold maxLen; omega) hBr.size HRL.out.1 HRL.out.2⟩)
      have HI5 := Lib.hid hi5
      obtain ⟨n5, a5, c5, l5, rfl, -⟩ := hi5
      unfold iv at *
      obtain ⟨hO6, hR6⟩ := HX.out _ _ _ _ HI5.out
      have HO6 := Lib.hid hO6
      have HR6 := Lib.hid hR6
      have HLL := Lib.hid (show ((unitG k).take i).length = i by rw [List.length_take, HU.out]; omega)
      clear hO6 hR6 HX hO HI HF HTy hb5 hk5 hBq
      go_wp2_with (at_builtin; refine appL elRow HP.out (by decide) (by rfl) (by rfl) (HO6.out.below HP.out (bal (Below.refl _ _) _)) (HP.out.kp HR6.out (Kp.of_below _ (bal (Below.refl _ _) _))) (by rfl) (by rfl) (cell_new (by simp) rfl) (by rw [HLL.out]; omega) (by rw [HLL.out]; unfold maxLen; omega) ?_)
      intro v8 w8 hO8 _
      have HO8 := Lib.hid hO8
      rw [HT.out] at HO8
      have hlK := HLT.out
      clear hO8 HO6 HR6
      go_wp2
      exact ⟨⟨i + 1, hlK, by go_num, HO8⟩, measS hlK (by go_num) rfl⟩
    · obtain rfl : i = k := by omega
      have hltI : ¬ (i : Int) < (i : Int) := by omega
      have HE := Lib.hid (show (unitG i).take i = unitG i by rw [← HU.out]; rw [HU.out]; exact List.take_of_length_le (by rw [HU.out]; exact Nat.le_refl _))
      rw [HE.out] at hO
      go_wp2
      go_ret
      exact ⟨⟨_, rfl, hO.out⟩, hO.out.bel⟩
end Go.Proofs.YtdllbdfchloijaaGreatDoor

/- eval: Evaluates. -/
namespace Go.Proofs.YtdllbdfchloijaaGreatDoor
open Pt
open Num
open Go.ChangeShapes Go.WideShapes Go.ChangeAt Go.RowKit
set_option linter.unusedVariables false
set_option linter.unusedSimpArgs false
attribute [local go_sem ↓] Go.wp_at_zero Go.wp_at_succ
/-- whether a program that may be evaluates -/
def EvIs (ins R : Int) (code : List Ins) (outs : List Int) (k n : Nat) (f : Nat → Int × Int) : Prop := ins = k ∧ outs.length = n ∧ NoDiv code ∧ Evs code outs R.toNat k n f
/-- what Evaluates answers where it is asked rightly -/
def EvPost (ins R : Int) (code : List Ins) (outs : List Int) (k n : Nat) (f : Nat → Int × Int) (w : World) (e : Ending) (w' : World) : Prop :=
  ((¬ ProgOk ins R code outs ∧ e = .returned (.tuple #[.bool false, .int .i64 80])) ∨ (ProgOk ins R code outs ∧ EvIs ins R code outs k n f ∧ e = .returned (.tuple #[.bool true, .int .i64 0])) ∨
   (ProgOk ins R code outs ∧ ¬ EvIs ins R code outs k n f ∧ e = .returned (.tuple #[.bool false, .int .i64 0]))) ∧ Below w.heap.size w w'
theorem EvPost.no {ins R : Int} {code : List Ins} {outs : List Int} {k n : Nat} {f : Nat → Int × Int} {w w' : World} (h : ProgOk ins R code outs) (h2 : ¬ EvIs ins R code outs k n f) (hb : Below w.heap.size w w') : EvPost ins R code outs k n f w (.returned (.tuple #[.bool false, .int .i64 0])) w' := ⟨.inr (.inr ⟨h, h2, rfl⟩), hb⟩
theorem EvPost.yes {ins R : Int} {code : List Ins} {outs : List Int} {k n : Nat} {f : Nat → Int × Int} {w w' : World} (h : ProgOk ins R code outs) (h2 : EvIs ins R code outs k n f) (hb : Below w.heap.size w w') : EvPost ins R code outs k n f w (.returned (.tuple #[.bool true, .int .i64 0])) w' := ⟨.inr (.inl ⟨h, h2, rfl⟩), hb⟩
theorem fits_unit {k : Nat} (hk : 1 ≤ k) (hk8 : k ≤ 8) : FitsG k (unitG k) ∧ ((unitG k).getD 0 []).length = k := by
  have h : ((unitG k).getD 0 []).length = k := unit_rl (show 0 < k by omega)
  exact ⟨⟨by rw [unitG_len], by rw [h]; exact unitG_rect k, by rw [h]; omega⟩, h⟩
theorem exRowsN_c (regs : Int) (k : Nat) (ca oa : Option Addr) (cc oc : Nat) (code : List Ins) (outs : List Int) (vg : Value) (w : World) (hc : InsV w ca cc code) (ho : IntsV w oa oc outs) (hg : GridV w vg (unitG k)) (hk : 1 ≤ k) (hk8 : k ≤ 8) (hok : ProgOk k regs code outs) (hnd : NoDiv code) :
    Calls Tryz.prog 45 #[.agg #[.int .i64 (k : Int), .int .i64 regs, .slice ca code.length cc, .slice oa outs.length oc], vg] w fun e w' => (∃ (h : Grid) (v : Value), after code (startG (unitG k) regs.toNat k) code.length = some h ∧ e = .returned (.tuple #[v, .int .i64 0, .int .i64 0]) ∧ IsL 43 (PRow 0) 0 w' v (outsG outs h)) ∧ Below w.heap.size w w' := by
  obtain ⟨hf, hl⟩ := fits_unit hk hk8
  have := exRows_c k regs ca oa cc oc code outs vg (unitG k) 1 w hc ho hg (by rw [hl]; omega) (unitG_bd k) (by decide)
  refine this.mono ?_
  rintro e w' ⟨h1 | h1 | h1 | ⟨_, _, h, v, h3, h4, h5⟩, hb⟩
  · exact absurd hok h1.1
  · exact absurd hf h1.2.1
  · obtain ⟨_, _, m, h, hm, _, h2, _⟩ := h1
    obtain ⟨s, hs⟩ := nodiv_after (startG (unitG k) regs.toNat k) hnd (m + 1) (by omega)
    rw [hl] at h2
    rw [hs] at h2; cases h2
  · rw [hl] at h3
    exact ⟨⟨h, v, h3, h4, (h5.isL.mono fun u x h => h.row.rebase (Nat.zero_le _)).rebase (Nat.zero_le _)⟩, hb⟩
/-- comparison: 0 just where they are the same -/
theorem cmpE_c (vx vy : Value) (x y : Int) (w : World) (hx : IsInt w vx x) (hy : IsInt w vy y) (h : x = y) : Calls Tryz.prog 48 #[vx, vy] w fun e w' => e = .returned (.int .i64 0) ∧ Below w.heap.size w w' := by
  subst h
  refine (cmp_c vx vy x x w hx hy).mono ?_
  rintro e w' ⟨rfl, hb⟩
  exact ⟨by unfold cmpI; rw [if_neg (by omega), if_pos rfl], hb⟩
theorem cmpN_c (vx vy : Value) (x y : Int) (w : World) (hx : IsInt w vx x) (hy : IsInt w vy y) (h : x ≠ y) : ∃ c : Int, c ≠ 0 ∧ ∀ W, Below w.heap.size w W → Calls Tryz.prog 48 #[vx, vy] W fun e w' => e = .returned (.int .i64 c) ∧ Below W.heap.size W w' :=
  ⟨cmpI x y, by unfold cmpI; split <;> (try split) <;> omega, fun W k => cmp_c vx vy x y W (hx.keep k) (hy.keep k)⟩
set_option maxRecDepth 100000 in
set_option maxHeartbeats 16000000 in
theorem evals_c (ins R : Int) (ca oa : Option Addr) (cc oc : Nat) (code : List Ins) (outs : List Int) (k : Nat) (a : Option Addr) (n cap : Nat) (f : Nat → Int × Int) (w : World) (hc : InsV w ca cc code) (ho : IntsV w oa oc outs) (h : PtsV w a n cap f) (hk : 1 ≤ k) (hk8 : k ≤ 8) (hp : PtsOk n f) :
    Calls Tryz.prog 14 #[.agg #[.int .i64 ins, .int .i64 R, .slice ca code.length cc, .slice oa outs.length oc], .int .i64 (k : Int), .slice a n cap] w (EvPost ins R code outs k n f w) := by
  have hB := Below.refl w.heap.size w
  have HP := Lib.hid h
  have HC := Lib.hid (And.intro hc ho)
  have HK := Lib.hid hp
  have hn15 : n ≤ 15 := hp.2.1
  have d1 : decide ((k : Int) < 1) = false := decide_eq_false (by omega)
  have d2 : decide (8 < (k : Int)) = false := decide_eq_false (by omega)
  have PC := Lib.hid (fun V (q : Below w.heap.size w V) => evPoints_c a n cap f V (HP.out.keep q) (by omega))
  rw [(ptsB_iff n f).2 hp] at PC
  have KC := Lib.hid (fun V (q : Below w.heap.size w V) => check_c ins R ca oa cc oc code outs V (HC.out.1.keep q) (HC.out.2.keep q))
  clear h hp hc ho
  go_enter Tryz.func14, Tryz.ntmps14
  go_wp2_with fail
  (with_reducible refine (PC.out _ ?_).mono ?_); (repeat (first | exact Below.refl _ _ | exact hB | refine Below.drew ?_ | refine below_drewN ?_ _ | refine bset ?_ (by simp <;> omega) _ | refine bal ?_ _))
  rintro e w1 ⟨rfl, hb1⟩
  have p0 : w1.cell? ⟨w.heap.size, 0, none⟩ = some (.int .i64 ins) := bkc hb1
  have zp0 := cell_lt p0
  have p1 : w1.cell? ⟨w.heap.size, 1, none⟩ = some (.int .i64 R) := bkc hb1
  have p2 : w1.cell? ⟨w.heap.size, 2, none⟩ = some (.slice ca code.length cc) := bkc hb1
  have p3 : w1.cell? ⟨w.heap.size, 3, none⟩ = some (.slice oa outs.length oc) := bkc hb1
  have hB : Below w.heap.size w w1 := bthen (by repeat (first | exact Below.refl _ _ | exact hB | refine Below.drew ?_ | refine below_drewN ?_ _ | refine bset ?_ (by simp <;> omega) _ | refine bal ?_ _)) hb1
  have hz : w.heap.size ≤ w1.heap.size := hB.size
  clear PC hb1
  go_wp2_with fail
  (with_reducible refine (KC.out _ ?_).mono ?_); (repeat (first | exact Below.refl _ _ | exact hB | refine Below.drew ?_ | refine below_drewN ?_ _ | refine bset ?_ (by simp <;> omega) _ | refine bal ?_ _))
  rintro e w2 ⟨r, s, rfl, hres, hb2⟩
  have p0 : w2.cell? ⟨w.heap.size, 0, none⟩ = some (.int .i64 ins) := bkc hb2
  have zp0 := cell_lt p0
  have p1 : w2.cell? ⟨w.heap.size, 1, none⟩ = some (.int .i64 R) := bkc hb2
  have p2 : w2.cell? ⟨w.heap.size, 2, none⟩ = some (.slice ca code.length cc) := bkc hb2
  have p3 : w2.cell? ⟨w.heap.size, 3, none⟩ = some (.slice oa outs.length oc) := bkc hb2
  have hB : Below w.heap.size w w2 := bthen (by repeat (first | exact Below.refl _ _ | exact hB | refine Below.drew ?_ | refine below_drewN ?_ _ | refine bset ?_ (by simp <;> omega) _ | refine bal ?_ _)) hb2
  have hz : w.heap.size ≤ w2.heap.size := hB.size
  clear KC hb2
  rcases hres with ⟨hok, rfl, rfl⟩ | ⟨hok, rfl⟩
  rotate_left
  · have HOK := Lib.hid hok
    clear hok
    go_wp2
    go_ret2
    exact ⟨.inl ⟨HOK.out, rfl⟩, by repeat (first | exact Below.refl _ _ | exact hB | refine Below.drew ?_ | refine below_drewN ?_ _ | refine bset ?_ (by simp <;> omega) _ | refine bal ?_ _)⟩
  have HOK := Lib.hid hok
  have hcl : code.length ≤ 16384 := hok.c1
  have hol : outs.length ≤ 128 := hok.o2
  clear hok
  by_cases hik : ins = k
  rotate_left
  · have hI : (ins != (k : Int)) = true := by simpa using hik
    have HM := Lib.hid (show ¬ EvIs ins R code outs k n f from fun q => hik q.1)
    clear hik
    go_wp2
    go_ret2
    exact EvPost.no HOK.out HM.out hB
  subst hik
  by_cases hnn : outs.length = n
  rotate_left
  · have hI : ((outs.length : Int) != (n : Int)) = true := by simpa using (show ¬ (outs.length : Int) = (n : Int) by omega)
    have HM := Lib.hid (show ¬ EvIs k R code outs k n f from fun q => hnn q.2.1)
    clear hnn
    go_wp2
    go_ret2
    exact EvPost.no HOK.out HM.out hB
  have hI : ((outs.length : Int) != (n : Int)) = false := by simpa using (show (outs.length : Int) = (n : Int) by omega)
  have HNN := Lib.hid hnn
  clear hnn
  have hBw := Below.refl w2.heap.size w2
  have HPP := Lib.hid (And.intro p0 (And.intro p1 (And.intro p2 p3)))
  have HB2 := Lib.hid hB
  go_wp2
  go_loopw [54] (fun x wr => ∃ j : Nat, j ≤ code.length ∧ x = .int .i64 j ∧ Below w2.heap.size w2 wr ∧ Hid (∀ t, t < j → (code.getD t default).op ≠ 6 ∧ (code.getD t default).op ≠ 8)) (fun x _ => code.length - (intOf x).toNat)
  case atStart => exact ⟨0, Nat.zero_le _, rfl, by repeat (first | exact Below.refl _ _ | exact hBw | refine Below.drew ?_ | refine below_drewN ?_ _ | refine bset ?_ (by simp <;> omega) _ | refine bal ?_ _), Lib.hid (fun t ht => by omega)⟩
  case round =>
    obtain ⟨j, hj, rfl, hBr, hA⟩ := hrel
    have hB3 := bthen HB2.out hBr
    clear p0 p1 p2 p3 hB hBw
    have p0 := bkeep hBr HPP.out.1
    have p1 := bkeep hBr HPP.out.2.1
    have p2 := bkeep hBr HPP.out.2.2.1
    have p3 := bkeep hBr HPP.out.2.2.2
    have zp := cell_lt p0
    by_cases hlt : j < code.length
    · have hltI : (j : Int) < (code.length : Int) := by omega
      have hBw := Below.refl wr.heap.size wr
      rcases HC.out.1.keep hB3 with h0 | ⟨b, off, rfl, hcap, hcell⟩
      · rw [h0] at hlt; simp at hlt
      obtain ⟨q0, q1, q2, q3, q4⟩ := hcell j hlt
      have HLT := Lib.hid hlt
      have HAS := Lib.hid (show ((code.getD j default).op ≠ 6 ∧ (code.getD j default).op ≠ 8) → ∀ t, t < j + 1 → (code.getD t default).op ≠ 6 ∧ (code.getD t default).op ≠ 8 from fun h t ht => by
        by_cases e : t = j
        · subst e; exact h
        · exact hA.out t (by omega))
      have HNO := Lib.hid (show ¬ ((code.getD j default).op ≠ 6 ∧ (code.getD j default).op ≠ 8) → ¬ EvIs k R code outs k n f from fun h q => h (q.2.2.1 j hlt))
      obtain ⟨i, hi⟩ : ∃ i, code.getD j default = i := ⟨_, rfl⟩
      rw [hi] at q0 q1 q2 q3 q4 HAS HNO
      obtain ⟨op, it, ia, ib, ic⟩ := i
      dsimp only at q0 q1 q2 q3 q4 HAS HNO
      have zb := cell_lt q0
      clear hi hcell hcap hlt hA
      by_cases h6 : op = 6
      · have HM := Lib.hid (HNO.out (fun h => h.1 h6))
        subst h6
        go_wp2
        go_ret2
        exact EvPost.no HOK.out HM.out (by repeat (first | exact Below.refl _ _ | exact hB3 | refine Below.drew ?_ | refine below_drewN ?_ _ | refine bset ?_ (by simp <;> omega) _ | refine bal ?_ _))
      · have h6I : (op == 6) = false := by simpa using h6
        by_cases h8 : op = 8
        · have HM := Lib.hid (HNO.out (fun h => h.2 h8))
          subst h8
          go_wp2
          go_ret2
          exact EvPost.no HOK.out HM.out (by repeat (first | exact Below.refl _ _ | exact hB3 | refine Below.drew ?_ | refine below_drewN ?_ _ | refine bset ?_ (by simp <;> omega) _ | refine bal ?_ _))
        · have h8I : (op == 8) = false := by simpa using h8
          have HA2 := Lib.hid (HAS.out ⟨h6, h8⟩)
          have hl := HLT.out
          clear HAS HNO h6 h8
          go_wp2
          exact ⟨⟨j + 1, hl, by go_num, by repeat (first | exact Below.refl _ _ | exact hBr | refine Below.drew ?_ | refine below_drewN ?_ _ | refine bset ?_ (by simp <;> omega) _ | refine bal ?_ _), HA2⟩, measS hl (by go_num) rfl⟩
    · obtain rfl : j = code.length := by omega
      have hltI : ¬ (code.length : Int) < (code.length : Int) := by omega
      have HND := Lib.hid (show NoDiv code from hA.out)
      have HS := Lib.hid (show ∀ V, Below wr.heap.size wr V → V.cell? ⟨w.heap.size, 0, none⟩ = some (.int .i64 (k : Int)) ∧ V.cell? ⟨w.heap.size, 1, none⟩ = some (.int .i64 R) ∧ V.cell? ⟨w.heap.size, 2, none⟩ = some (.slice ca code.length cc) ∧ V.cell? ⟨w.heap.size, 3, none⟩ = some (.slice oa outs.length oc) from fun V q => ⟨bkeep q p0, bkeep q p1, bkeep q p2, bkeep q p3⟩)
      have UC := Lib.hid (fun V => units_c k V hk8)
      have RC := Lib.hid (fun V vg (q : Below wr.heap.size wr V) (hg : GridV V vg (unitG k)) => exRowsN_c R k ca oa cc oc code outs vg V (HC.out.1.keep (bthen hB3 q)) (HC.out.2.keep (bthen hB3 q)) hg hk hk8 HOK.out HND.out)
      have HB3 := Lib.hid hB3
      have hBw := Below.refl wr.heap.size wr
      clear hj hlt hA hB3 hBr
      go_wp2
      go_region_held3 (fun V => V.cell? ⟨w.heap.size, 0, none⟩ = some (.int .i64 (k : Int)) ∧ V.cell? ⟨w.heap.size, 1, none⟩ = some (.int .i64 R) ∧ V.cell? ⟨w.heap.size, 2, none⟩ = some (.slice ca code.length cc) ∧ V.cell? ⟨w.heap.size, 3, none⟩ = some (.slice oa outs.length oc))
        (first | (refine HS.out _ ?_; (repeat (first | exact Below.refl _ _ | exact hBw | refine Below.drew ?_ | refine below_drewN ?_ _ | refine bset ?_ (by simp <;> omega) _ | refine bal ?_ _)); done) | fail)
        (first
          | (go_at_call 46; refine (UC.out _).mono ?_; rintro e w5 ⟨⟨vu, rfl, hu⟩, hb5⟩; (have hBd : Below wr.heap.size wr w5 := bthen (by repeat (first | exact Below.refl _ _ | exact hBw | refine Below.drew ?_ | refine below_drewN ?_ _ | refine bset ?_ (by simp <;> omega) _ | refine bal ?_ _)) hb5; clear hBw; have hBw := hBd; clear hBd); have HU5 := Lib.hid (show GridV w5 vu (unitG k) from (hu.isL.mono fun u x h => IsRow.rebase h (Nat.zero_le _)).rebase (Nat.zero_le _)); have hy5 := Below.refl w5.heap.size w5; obtain ⟨ua, uc, rfl⟩ := hu.ex; clear hu)
          | (go_at_call 45; refine (RC.out _ _ ?_ (HU5.out.keep (prs_row lims_int _ _) ?_)).mono ?_; (repeat (first | exact Below.refl _ _ | exact hBw | refine Below.drew ?_ | refine below_drewN ?_ _ | refine bset ?_ (by simp <;> omega) _ | refine bal ?_ _)); (repeat (first | exact Below.refl _ _ | exact hy5 | refine Below.drew ?_ | refine below_drewN ?_ _ | refine bset ?_ (by simp <;> omega) _ | refine bal ?_ _)); rintro e w6 ⟨⟨H, vr, hH, rfl, hR⟩, hb6⟩; (have hBd : Below wr.heap.size wr w6 := bthen (by repeat (first | exact Below.refl _ _ | exact hBw | refine Below.drew ?_ | refine below_drewN ?_ _ | refine bset ?_ (by simp <;> omega) _ | refine bal ?_ _)) hb6; clear hBw; have hBw := hBd; clear hBd); have HR6 := Lib.hid (And.intro hH hR); obtain ⟨ra, rc, rfl⟩ : ∃ a c, vr = Value.slice a (outsG outs H).length c := (by obtain ⟨a, c, h, _⟩ := hR; exact ⟨a, c, h⟩); clear hH hR)
          | fail)
      all_goals
        have HB6 := Lib.hid (bthen HB3.out hBw)
        have hRect : Rect k H := after_rect (startG_rect (unitG_rect k)) (startG_len (by rw [unitG_len]; have := HOK.out.i2; omega)) (fun m hm => by have := (mayB_iff ..).1 (HOK.out.cs m hm); omega) (Nat.le_refl _) HR6.out.1
        have HRW := Lib.hid (show ∀ i, i < n → (outsG outs H).length = n ∧ ((outsG outs H).getD i []).length = k from fun i hi => by
          have e : (outsG outs H).length = n := by unfold outsG; rw [List.length_map, HNN.out]
          refine ⟨e, ?_⟩
          have hi2 : i < outs.length := by rw [HNN.out]; exact hi
          rw [show (outsG outs H).getD i [] = H.getD (outs.getD i 0).toNat [] by unfold outsG; simp [hi2]]
          have h1 := HOK.out.os i hi2
          exact hRect _ (by rw [after_len HR6.out.1, startG_len (by rw [unitG_len]; have := HOK.out.i2; omega)]; omega))
        have HEV := Lib.hid (show (∀ i, i < n → ∀ j, j < k → gat (outsG outs H) i j = Det.pf (f i).1 (f i).2 k j) → EvIs k R code outs k n f from fun q => ⟨rfl, HNN.out, HND.out, fun s hs i hi j hj => by rw [HR6.out.1] at hs; cases hs; exact q i hi j hj⟩)
        have HNE := Lib.hid (show ∀ i, i < n → ∀ j, j < k → gat (outsG outs H) i j ≠ Det.pf (f i).1 (f i).2 k j → ¬ EvIs k R code outs k n f from fun i hi j hj hne q => hne (q.2.2.2 H HR6.out.1 i hi j hj))
        have HRS := Lib.hid HR6.out.2
        obtain ⟨G, hG⟩ : ∃ G, outsG outs H = G := ⟨_, rfl⟩
        rw [hG] at HRW HEV HNE HRS ⊢
        have hBx := Below.refl w6.heap.size w6
        clear hRect hG HR6 HU5 UC RC HS hBw hy5 p0 p1 p2 p3 zp HPP HB2 HB3 HND
        go_wp2
        go_loopw [79] (fun x wr => ∃ i : Nat, i ≤ n ∧ x = .int .i64 i ∧ Below w6.heap.size w6 wr ∧ Hid (∀ i', i' < i → ∀ j, j < k → gat G i' j = Det.pf (f i').1 (f i').2 k j)) (fun x _ => n - (intOf x).toNat)
        case atStart => exact ⟨0, Nat.zero_le _, rfl, by repeat (first | exact Below.refl _ _ | exact hBx | refine Below.drew ?_ | refine below_drewN ?_ _ | refine bset ?_ (by simp <;> omega) _ | refine bal ?_ _), Lib.hid (fun i' h => by omega)⟩
        case round =>
          rename World => wi
          obtain ⟨i, hi, rfl, hBi, hA⟩ := hrel
          by_cases hlt : i < n
          · have hltI : (i : Int) < (n : Int) := by omega
            have HLT := Lib.hid hlt
            obtain ⟨b, off, e, hcap, c0, c1⟩ := (HP.out.keep (bthen HB6.out hBi)).atE hlt
            subst e
            have hpin := HK.out.2.2 i hlt
            have HPFI := Lib.hid (fun j => (show Det.pf (f i).1 (f i).2 k j = powF (f i).1 (f i).2 k j from rfl))
            have HNEI := Lib.hid (HNE.out i hlt)
            obtain ⟨q, hq⟩ : ∃ q, f i = q := ⟨_, rfl⟩
            have HQ := Lib.hid hq
            rw [hq] at c0 c1 hpin HPFI HNEI
            obtain ⟨q1, q2⟩ := q
            have PW := Lib.hid (fun V => ptPow_yes q1 q2 k V hpin (by omega))
            have zb := cell_lt c0
            have hBw := Below.refl wi.heap.size wi
            clear hq hpin hcap
            go_wp2_with fail
            (with_reducible refine (PW.out _).mono ?_)
            rintro e w7 ⟨⟨g, rfl, hg⟩, hb7⟩
            have hk7 : Below wi.heap.size wi w7 := bthen (by repeat (first | exact Below.refl _ _ | exact hBw | refine Below.drew ?_ | refine below_drewN ?_ _ | refine bset ?_ (by simp <;> omega) _ | refine bal ?_ _)) hb7
            have hB7 := bthen hBi hk7
            have HG7 := Lib.hid hg
            obtain ⟨_, _, e, -, hv⟩ := (HRS.out.keep (prs_row lims_int _ _) hB7).view
            cases e
            obtain ⟨rb, ro, u, e, hu, hr⟩ := hv i (by rw [(HRW.out i hlt).1]; exact hlt)
            cases e
            have hrl := (HRW.out i hlt).2
            have hge : G[i]'(by rw [(HRW.out i hlt).1]; exact hlt) = G.getD i [] := by simp [(HRW.out i hlt).1, hlt]
            rw [hge] at hr
            have HRI := Lib.hid hr
            have HGA := Lib.hid (fun j => (show gat G i j = (G.getD i []).getD j 0 from rfl))
            have hGL : (i : Int) < (G.length : Int) := by rw [(HRW.out i hlt).1]; exact hltI
            have hGL2 : i < G.length := by rw [(HRW.out i hlt).1]; exact hlt
            obtain ⟨row, hrow⟩ : ∃ r, G.getD i [] = r := ⟨_, rfl⟩
            rw [hrow] at HRI hr hrl HGA
            obtain ⟨xa, xc, rfl, -, -⟩ := hr.view
            rw [hrl] at hu
            have HRL := Lib.hid hrl
            have HB7 := Lib.hid hB7
            have zu := cell_lt hu
            have hBy := Below.refl w7.heap.size w7
            clear PW hb7 hk7 hB7 hg hv hr hge hrow hrl hBw c0 c1 zb
            go_wp2
            go_loopw [95] (fun x wr => ∃ j : Nat, j ≤ k ∧ x = .int .i64 j ∧ Below w7.heap.size w7 wr ∧ Hid (∀ j', j' < j → gat G i j' = Det.pf q1 q2 k j')) (fun x _ => k - (intOf x).toNat)
            case atStart => exact ⟨0, Nat.zero_le _, rfl, by repeat (first | exact Below.refl _ _ | exact hBy | refine Below.drew ?_ | refine below_drewN ?_ _ | refine bset ?_ (by simp <;> omega) _ | refine bal ?_ _), Lib.hid (fun j' h => by omega)⟩
            case round =>
              rename World => wj
              obtain ⟨j, hj, rfl, hBj, hE⟩ := hrel
              by_cases hjt : j < k
              · have hjI : (j : Int) < (k : Int) := by omega
                have HJT := Lib.hid hjt
                obtain ⟨_, _, e, -, vr⟩ := (IsRow.keep lims_int HRI.out hBj).view
                cases e
                obtain ⟨xb, xo, xn, xd, xl, xk, e, d0, d1, hx⟩ := vr j (by rw [HRL.out]; exact hjt)
                cases e
                obtain ⟨gn, ga, gl, gc, g0, g1, hgi⟩ := (HG7.out.keep lims_int hBj).at0 hjt
                have zd := cell_lt d0
                have zg := cell_lt g0
                have hBw := Below.refl wj.heap.size wj
                have HPJ := Lib.hid (HPFI.out j)
                have HNJ := Lib.hid (HNEI.out j hjt)
                have HGJ := Lib.hid (HGA.out j)
                clear vr hjt
                go_wp2
                refine wp_name fun w9 hW9 => ?_
                have hk9 : Below wj.heap.size wj w9 := by rw [hW9]; repeat (first | exact Below.refl _ _ | exact hBw | refine Below.drew ?_ | refine below_drewN ?_ _ | refine bset ?_ (by simp <;> omega) _ | refine bal ?_ _)
                have x0 : w9.cell? ⟨wj.heap.size, 0, none⟩ = some (.bool xn) := by rw [hW9]; simp [go_sem]
                have x1 : w9.cell? ⟨wj.heap.size, 1, none⟩ = some (.slice xd xl xk) := by rw [hW9]; simp [go_sem]
                have HX9 := Lib.hid (hx.lim (.of_below hk9))
                have HG9 := Lib.hid (hgi.lim (.of_below hk9))
                have hB9 := bthen hBj hk9
                replace g0 := bkeep hk9 g0
                replace g1 := bkeep hk9 g1
                have HS := Lib.hid (show ∀ V, Below w9.heap.size w9 V → V.cell? ⟨wj.heap.size, 0, none⟩ = some (.bool xn) ∧ V.cell? ⟨wj.heap.size, 1, none⟩ = some (.slice xd xl xk) ∧ V.cell? ⟨g, j * 2, none⟩ = some (.bool gn) ∧ V.cell? ⟨g, j * 2 + 1, none⟩ = some (.slice ga gl gc) from fun V q => ⟨bkeep q x0, bkeep q x1, bkeep q g0, bkeep q g1⟩)
                have zx := cell_lt x0
                replace zg := cell_lt g0
                clear hW9 hk9 hx hgi hBw d0 d1 zd hBj
                have hBw := Below.refl w9.heap.size w9
                by_cases hxy : gat G i j = Det.pf q1 q2 k j
                · have CC := Lib.hid (fun V (q : Below w9.heap.size w9 V) => cmpE_c (.agg #[.bool xn, .slice xd xl xk]) (.agg #[.bool gn, .slice ga gl gc]) (row.getD j 0) (powF q1 q2 k j) V (HX9.out.keep q) (HG9.out.keep q) (by rw [← HGJ.out, ← HPJ.out]; exact hxy))
                  have HE2 := Lib.hid (show ∀ j', j' < j + 1 → gat G i j' = Det.pf q1 q2 k j' from fun j' h => by
                    by_cases e : j' = j
                    · subst e; exact hxy
                    · exact hE.out j' (by omega))
                  clear hxy hE
                  go_region_held3 (fun V => V.cell? ⟨wj.heap.size, 0, none⟩ = some (.bool xn) ∧ V.cell? ⟨wj.heap.size, 1, none⟩ = some (.slice xd xl xk) ∧ V.cell? ⟨g, j * 2, none⟩ = some (.bool gn) ∧ V.cell? ⟨g, j * 2 + 1, none⟩ = some (.slice ga gl gc))
                    (first | (refine HS.out _ ?_; (repeat (first | exact Below.refl _ _ | exact hBw | refine Below.drew ?_ | refine below_drewN ?_ _ | refine bset ?_ (by simp <;> omega) _ | refine bal ?_ _)); done) | fail)
                    (first
                      | (go_at_call 48; refine (CC.out _ ?_).mono ?_; (repeat (first | exact Below.refl _ _ | exact hBw | refine Below.drew ?_ | refine below_drewN ?_ _ | refine bset ?_ (by simp <;> omega) _ | refine bal ?_ _)); rintro e w10 ⟨rfl, hb10⟩; (have hBd : Below w9.heap.size w9 w10 := bthen (by repeat (first | exact Below.refl _ _ | exact hBw | refine Below.drew ?_ | refine below_drewN ?_ _ | refine bset ?_ (by simp <;> omega) _ | refine bal ?_ _)) hb10; clear hBw; have hBw := hBd; clear hBd))
                      | fail)
                  all_goals
                    have hBz := bthen hB9 hBw
                    have hl := HJT.out
                    clear CC HS hBw hB9 x0 x1 g0 g1 zx zg
                    go_wp2
                    exact ⟨⟨j + 1, hl, by go_num, hBz, HE2⟩, measS hl (by go_num) rfl⟩
                · obtain ⟨c, hc0, CC'⟩ := cmpN_c (.agg #[.bool xn, .slice xd xl xk]) (.agg #[.bool gn, .slice ga gl gc]) (row.getD j 0) (powF q1 q2 k j) w9 HX9.out HG9.out (by rw [← HGJ.out, ← HPJ.out]; exact hxy)
                  have CC := Lib.hid CC'
                  have HM := Lib.hid (HNJ.out hxy)
                  have hcI : (c != 0) = true := by simpa using hc0
                  clear hxy hE CC' hc0
                  go_region_held3 (fun V => V.cell? ⟨wj.heap.size, 0, none⟩ = some (.bool xn) ∧ V.cell? ⟨wj.heap.size, 1, none⟩ = some (.slice xd xl xk) ∧ V.cell? ⟨g, j * 2, none⟩ = some (.bool gn) ∧ V.cell? ⟨g, j * 2 + 1, none⟩ = some (.slice ga gl gc))
                    (first | (refine HS.out _ ?_; (repeat (first | exact Below.refl _ _ | exact hBw | refine Below.drew ?_ | refine below_drewN ?_ _ | refine bset ?_ (by simp <;> omega) _ | refine bal ?_ _)); done) | fail)
                    (first
                      | (go_at_call 48; refine (CC.out _ ?_).mono ?_; (repeat (first | exact Below.refl _ _ | exact hBw | refine Below.drew ?_ | refine below_drewN ?_ _ | refine bset ?_ (by simp <;> omega) _ | refine bal ?_ _)); rintro e w10 ⟨rfl, hb10⟩; (have hBd : Below w9.heap.size w9 w10 := bthen (by repeat (first | exact Below.refl _ _ | exact hBw | refine Below.drew ?_ | refine below_drewN ?_ _ | refine bset ?_ (by simp <;> omega) _ | refine bal ?_ _)) hb10; clear hBw; have hBw := hBd; clear hBd))
                      | fail)
                  all_goals
                    have hBz := bthen HB6.out (bthen HB7.out (bthen hB9 hBw))
                    clear CC HS hBw hB9 x0 x1 g0 g1 zx zg
                    go_wp2
                    go_ret2
                    exact EvPost.no HOK.out HM.out (by repeat (first | exact Below.refl _ _ | exact hBz | refine Below.drew ?_ | refine below_drewN ?_ _ | refine bset ?_ (by simp <;> omega) _ | refine bal ?_ _))
              · obtain rfl : j = k := by omega
                have hjI : ¬ (j : Int) < (j : Int) := by omega
                have HA2 := Lib.hid (show ∀ i', i' < i + 1 → ∀ j', j' < j → gat G i' j' = Det.pf (f i').1 (f i').2 j j' from fun i' h j' h2 => by
                  by_cases e : i' = i
                  · subst e; rw [HQ.out]; exact hE.out j' h2
                  · exact hA.out i' (by omega) j' h2)
                have hBz := bthen HB7.out hBj
                have hl := HLT.out
                clear hE hBj hA
                go_wp2
                exact ⟨⟨i + 1, hl, by go_num, hBz, HA2⟩, measS hl (by go_num) rfl⟩
          · obtain rfl : i = n := by omega
            have hltI : ¬ (i : Int) < (i : Int) := by omega
            have HM := Lib.hid (HEV.out hA.out)
            go_wp2
            go_ret2
            exact EvPost.yes HOK.out HM.out (bthen HB6.out hBi)
end Go.Proofs.YtdllbdfchloijaaGreatDoor

/- The reference for layer 11: Points, Right, Evaluates. -/
namespace Go.Proofs.YtdllbdfchloijaaGreatDoor
open Pt
open Num
open Go.ChangeShapes Go.WideShapes Go.ChangeAt Go.RowKit
set_option linter.unusedVariables false
set_option linter.unusedSimpArgs false
attribute [local go_sem ↓] Go.wp_at_zero Go.wp_at_succ
set_option maxRecDepth 100000 in
set_option maxHeartbeats 4000000 in
theorem rpoints11_c (a : Option Addr) (n cap : Nat) (f : Nat → Int × Int) (w : World) (h : PtsV w a n cap f) (hn : n ≤ 4611686018427387904) :
    Calls Tryz.prog 17 #[.slice a n cap] w fun e w' => e = .returned (.bool (ptsB n f)) ∧ Below w.heap.size w w' := by
  have hB := Below.refl w.heap.size w
  have HP := Lib.hid h
  clear h
  go_enter Tryz.func17, Tryz.ntmps17
  go_wp2
  go_loopw [3] (fun x wr => ∃ j : Nat, j ≤ n ∧ x = .int .i64 j ∧ Below w.heap.size w wr ∧ Hid (∀ t, t < j → inB (f t).1 (f t).2 = true)) (fun x _ => n - (intOf x).toNat)
  case atStart => exact ⟨0, Nat.zero_le _, rfl, hB, Lib.hid (fun t ht => by omega)⟩
  case round =>
    obtain ⟨j, hj, rfl, hBr, hE⟩ := hrel
    by_cases hlt : j < n
    · have hltI : (j : Int) < (n : Int) := by omega
      obtain ⟨b, off, e, hcap, c0, c1⟩ := (HP.out.keep hBr).atE hlt
      subst e
      have zb := cell_lt c0
      obtain ⟨q, hq⟩ : ∃ q, f j = q := ⟨_, rfl⟩
      rw [hq] at c0 c1
      obtain ⟨q1, q2⟩ := q
      obtain ⟨v, hv⟩ : ∃ v, inB q1 q2 = v := ⟨_, rfl⟩
      have NC := Lib.hid (fun W => refIn_v q1 q2 v W hv)
      have HV := Lib.hid (show inB (f j).1 (f j).2 = v by rw [hq]; exact hv)
      have hBw := Below.refl wr.heap.size wr
      have HLT := Lib.hid hlt
      clear hq hv hcap
      go_wp2_with fail
      (with_reducible refine (NC.out _).mono ?_)
      rintro e w5 ⟨rfl, hb5⟩
      have hB5 := bthen hBr (bthen (show Below wr.heap.size wr _ by repeat (first | exact Below.refl _ _ | exact hBw | refine Below.drew ?_ | refine below_drewN ?_ _ | refine bset ?_ (by simp <;> omega) _ | refine bal ?_ _)) hb5)
      cases v with
      | false =>
        have HNO := Lib.hid (show ptsB n f = false from ptsB_no fun k => by
          have h1 := inB_yes (k.2.2 j HLT.out)
          rw [HV.out] at h1; cases h1)
        go_wp2
        go_ret
        exact ⟨ret_bool HNO.out.symm, hB5⟩
      | true =>
        have HE2 := Lib.hid (show ∀ t, t < j + 1 → inB (f t).1 (f t).2 = true from fun t ht => by
          by_cases e : t = j
          · subst e; exact HV.out
          · exact hE.out t (by omega))
        go_wp2
        exact ⟨⟨j + 1, hlt, by go_num, hB5, HE2⟩, measS hlt (by go_num) rfl⟩
    · obtain rfl : j = n := by omega
      have hltI : ¬ (j : Int) < (j : Int) := by omega
      by_cases h1 : 1 ≤ j
      · have h1I : (1 : Int) ≤ (j : Int) := by omega
        by_cases h2 : j ≤ 15
        · have h2I : (j : Int) ≤ 15 := by omega
          have HM := Lib.hid (show ptsB j f = true from (ptsB_iff j f).2 ⟨h1, h2, fun i hi => (inB_iff _ _).1 (hE.out i hi)⟩)
          go_wp2
          go_ret
          exact ⟨ret_bool HM.out.symm, hBr⟩
        · have h2I : ¬ (j : Int) ≤ 15 := by omega
          have HM := Lib.hid (show ptsB j f = false from ptsB_no fun k => h2 k.2.1)
          go_wp2
          go_ret
          exact ⟨ret_bool HM.out.symm, hBr⟩
      · have h1I : ¬ (1 : Int) ≤ (j : Int) := by omega
        have HM := Lib.hid (show ptsB j f = false from ptsB_no fun k => h1 k.1)
        go_wp2
        go_ret
        exact ⟨ret_bool HM.out.symm, hBr⟩
/-- what the reference's Evaluates answers -/
def REvPost (ins R : Int) (code : List Ins) (outs : List Int) (k n : Nat) (f : Nat → Int × Int) (w : World) (e : Ending) (w' : World) : Prop :=
  ((EvIs ins R code outs k n f ∧ e = .returned (.bool true)) ∨ (¬ EvIs ins R code outs k n f ∧ e = .returned (.bool false))) ∧ Below w.heap.size w w'
theorem REvPost.no {ins R : Int} {code : List Ins} {outs : List Int} {k n : Nat} {f : Nat → Int × Int} {w w' : World} (h2 : ¬ EvIs ins R code outs k n f) (hb : Below w.heap.size w w') : REvPost ins R code outs k n f w (.returned (.bool false)) w' := ⟨.inr ⟨h2, rfl⟩, hb⟩
theorem REvPost.yes {ins R : Int} {code : List Ins} {outs : List Int} {k n : Nat} {f : Nat → Int × Int} {w w' : World} (h2 : EvIs ins R code outs k n f) (hb : Below w.heap.size w w') : REvPost ins R code outs k n f w (.returned (.bool true)) w' := ⟨.inl ⟨h2, rfl⟩, hb⟩
end Go.Proofs.YtdllbdfchloijaaGreatDoor

/- the reference's Same of programs: two that read alike. -/
namespace Go.Proofs.YtdllbdfchloijaaGreatDoor
open Pt
open Num
open Go.ChangeShapes Go.WideShapes Go.ChangeAt Go.RowKit
set_option linter.unusedVariables false
set_option linter.unusedSimpArgs false
attribute [local go_sem ↓] Go.wp_at_zero Go.wp_at_succ
end Go.Proofs.YtdllbdfchloijaaGreatDoor

