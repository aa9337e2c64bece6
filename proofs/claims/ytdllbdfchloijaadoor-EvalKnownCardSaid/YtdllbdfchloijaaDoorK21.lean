/- Texts of this seat, laid together: EvF, EvQ, EvJ. Each opens with its own remark, which says what it proves, and under which conditions. -/
import Derived.Test.YtdllbdfchloijaaDoorK20
import Derived.Test.YtdllbdfchloijaaDoorK15
import Derived.Test.YtdllbdfchloijaaDoorK19
import Derived.Test.YtdllbdfchloijaaDoorK12
import Derived.Test.YtdllbdfchloijaaDoorK18
import Derived.Test.YtdllbdfchloijaaDoorK14
import Derived.Test.YtdllbdfchloijaaDoorK13
import Derived.Test.YtdllbdfchloijaaDoorK06
import Derived.Test.YtdllbdfchloijaaDoorK11
set_option linter.unusedVariables false
set_option linter.unusedSimpArgs false
/- eval: Program, walked. -/
namespace Go.Proofs.YtdllbdfchloijaaDoor
open Pt
open Num
open Go.ChangeShapes Go.WideShapes Go.ChangeAt Go.RowKit
set_option linter.unusedVariables false
set_option linter.unusedSimpArgs false
attribute [local go_sem ↓] Go.wp_at_zero Go.wp_at_succ
set_option maxRecDepth 100000 in
set_option maxHeartbeats 8000000 in
theorem program_no (k : Int) (a : Option Addr) (n cap : Nat) (f : Nat → Int × Int) (w : World) (h : PtsV w a n cap f) (hn : n ≤ 4611686018427387904) (hno : ¬ (1 ≤ k ∧ k ≤ 8 ∧ PtsOk n f)) :
    Calls Tryd.prog 18 #[.int .i64 k, .slice a n cap] w fun e w' => e = .returned (.tuple #[.agg #[.int .i64 0, .int .i64 0, .slice none 0 0, .slice none 0 0], .int .i64 2]) ∧ Below w.heap.size w w' := by
  have hB := Below.refl w.heap.size w
  have HP := Lib.hid h
  have HN := Lib.hid hno
  clear h hno
  by_cases h1 : k < 1
  · have d1 : decide (k < 1) = true := decide_eq_true h1
    go_enter Tryd.func18, Tryd.ntmps18
    go_wp2
    go_step3
    go_wp2
    rw [Exit.noGoto_ret]
    refine bodyPost_ret (v := .tuple #[.agg #[.int .i64 0, .int .i64 0, .slice none 0 0, .slice none 0 0], .int .i64 2]) (by simp [results, Tryd.results18, go_sem, *]) rfl ⟨rfl, by repeat (first | exact Below.refl _ _ | exact hB | refine Below.drew ?_ | refine below_drewN ?_ _ | refine bset ?_ (by simp <;> omega) _ | refine bal ?_ _)⟩
  have d1 : decide (k < 1) = false := decide_eq_false h1
  by_cases h2 : 8 < k
  · have d2 : decide (8 < k) = true := decide_eq_true h2
    go_enter Tryd.func18, Tryd.ntmps18
    go_wp2
    go_step3
    go_wp2
    rw [Exit.noGoto_ret]
    refine bodyPost_ret (v := .tuple #[.agg #[.int .i64 0, .int .i64 0, .slice none 0 0, .slice none 0 0], .int .i64 2]) (by simp [results, Tryd.results18, go_sem, *]) rfl ⟨rfl, by repeat (first | exact Below.refl _ _ | exact hB | refine Below.drew ?_ | refine below_drewN ?_ _ | refine bset ?_ (by simp <;> omega) _ | refine bal ?_ _)⟩
  have d2 : decide (8 < k) = false := decide_eq_false h2
  have HF := Lib.hid (show ptsB n f = false from ptsB_no fun q => HN.out ⟨by omega, by omega, q⟩)
  have PC := Lib.hid (fun V (q : Below w.heap.size w V) => evPoints_c a n cap f V (HP.out.keep q) hn)
  rw [HF.out] at PC
  go_enter Tryd.func18, Tryd.ntmps18
  go_wp2
  go_step3
  go_wp2_with fail
  (with_reducible refine (PC.out _ ?_).mono ?_); (repeat (first | exact Below.refl _ _ | exact hB | refine Below.drew ?_ | refine below_drewN ?_ _ | refine bset ?_ (by simp <;> omega) _ | refine bal ?_ _))
  rintro e w1 ⟨rfl, hb1⟩
  have r0f : w1.frozen? ⟨w.heap.size, 0, none⟩ = false := bkeepf hb1 (v := .int .i64 0) (by simp [go_sem]) (by simp [go_sem])
  have r1f : w1.frozen? ⟨w.heap.size, 1, none⟩ = false := bkeepf hb1 (v := .int .i64 0) (by simp [go_sem]) (by simp [go_sem])
  have r2f : w1.frozen? ⟨w.heap.size, 2, none⟩ = false := bkeepf hb1 (v := .slice none 0 0) (by simp [go_sem]) (by simp [go_sem])
  have r3f : w1.frozen? ⟨w.heap.size, 3, none⟩ = false := bkeepf hb1 (v := .slice none 0 0) (by simp [go_sem]) (by simp [go_sem])
  have r0 : w1.cell? ⟨w.heap.size, 0, none⟩ = some (.int .i64 0) := bkc hb1
  have zr0 := cell_lt r0
  have r1 : w1.cell? ⟨w.heap.size, 1, none⟩ = some (.int .i64 0) := bkc hb1
  have r2 : w1.cell? ⟨w.heap.size, 2, none⟩ = some (.slice none 0 0) := bkc hb1
  have r3 : w1.cell? ⟨w.heap.size, 3, none⟩ = some (.slice none 0 0) := bkc hb1
  have hB : Below w.heap.size w w1 := bthen (by repeat (first | exact Below.refl _ _ | exact hB | refine Below.drew ?_ | refine below_drewN ?_ _ | refine bset ?_ (by simp <;> omega) _ | refine bal ?_ _)) hb1
  have hz : w.heap.size ≤ w1.heap.size := hB.size
  clear PC hb1
  go_wp2
  rw [Exit.noGoto_ret]
  refine bodyPost_ret (v := .tuple #[.agg #[.int .i64 0, .int .i64 0, .slice none 0 0, .slice none 0 0], .int .i64 2]) (by simp [results, Tryd.results18, go_sem, *]) rfl ⟨rfl, by repeat (first | exact Below.refl _ _ | exact hB | refine Below.drew ?_ | refine below_drewN ?_ _ | refine bset ?_ (by simp <;> omega) _ | refine bal ?_ _)⟩
/-- what Program answers where it is asked rightly -/
def ProgPost (k n : Nat) (f : Nat → Int × Int) (w : World) (e : Ending) (w' : World) : Prop :=
  (∃ ca cc oa oc, e = .returned (.tuple #[.agg #[.int .i64 (k : Int), .int .i64 ((k + n + 1 : Nat) : Int), .slice ca (codeL k n f n).length cc, .slice oa (outsL k n).length oc], .int .i64 0]) ∧ InsV w' ca cc (codeL k n f n) ∧ IntsV w' oa oc (outsL k n) ∧ FromA w.heap.size 53 w' ca ∧ FromA w.heap.size 3 w' oa) ∧ Below w.heap.size w w'
theorem codeL_le {k n : Nat} (f : Nat → Int × Int) (hk : 1 ≤ k) (hk8 : k ≤ 8) {i : Nat} (hi : i ≤ 15) : (codeL k n f i).length ≤ 660 := by
  have h1 := code_le k n f hk i
  have h2 : k * (k + 3) ≤ 8 * 11 := Nat.mul_le_mul hk8 (by omega)
  have h3 : i * (k * (k + 3)) ≤ 15 * (8 * 11) := Nat.mul_le_mul hi h2
  omega
theorem horn_le8 {k : Nat} (t term a b : Int) {s : Nat} (hs : s ≤ 8) : (hornL k t term a b s).length ≤ 60 := by
  have h1 := horn_le k t term a b s
  have h2 : s * (s + 5) ≤ 8 * 13 := Nat.mul_le_mul hs (by omega)
  omega
/-- the program at the loop's head, at first -/
theorem evS_new {w w1 : World} {k n : Nat} {f : Nat → Int × Int} (hb : Below w.heap.size w w1) (hlt : w.heap.size < w1.heap.size) (hT : Tz64 w)
    (r0 : w1.cell? ⟨w.heap.size, 0, none⟩ = some (.int .i64 0)) (r1 : w1.cell? ⟨w.heap.size, 1, none⟩ = some (.int .i64 0)) (r2 : w1.cell? ⟨w.heap.size, 2, none⟩ = some (.slice none 0 0)) (r3 : w1.cell? ⟨w.heap.size, 3, none⟩ = some (.slice none 0 0)) (rf : ∀ j, w1.frozen? ⟨w.heap.size, j, none⟩ = false) :
    EvS w w1.heap.size (w1.heap.size + 1) k n f 0 ((w1.alloc (.cells #[.int .i64 (k : Int), .int .i64 ((k + n + 1 : Nat) : Int), .slice none 0 0, .slice none 0 0] 50)).alloc (.cells #[addV w1.heap.size] 79)) := by
  have hb2 : Below w1.heap.size w1 ((w1.alloc (.cells #[.int .i64 (k : Int), .int .i64 ((k + n + 1 : Nat) : Int), .slice none 0 0, .slice none 0 0] 50)).alloc (.cells #[addV w1.heap.size] 79)) := bal (bal (Below.refl _ _) _) _
  have e1 : ∀ i v, (#[Value.int .i64 (k : Int), .int .i64 ((k + n + 1 : Nat) : Int), .slice none 0 0, .slice none 0 0] : Array Value)[i]? = some v → ((w1.alloc (.cells #[.int .i64 (k : Int), .int .i64 ((k + n + 1 : Nat) : Int), .slice none 0 0, .slice none 0 0] 50)).alloc (.cells #[addV w1.heap.size] 79)).cell? ⟨w1.heap.size, i, none⟩ = some v := fun i v h => cell_alloc (cell_new rfl h) _
  have hz : w1.heap.size < ((w1.alloc (.cells #[.int .i64 (k : Int), .int .i64 ((k + n + 1 : Nat) : Int), .slice none 0 0, .slice none 0 0] 50)).alloc (.cells #[addV w1.heap.size] 79)).heap.size := by simp; omega
  refine ⟨⟨?_, ?_, e1 0 _ rfl, e1 1 _ rfl, ⟨_, e1 2 _ rfl, World.ownsRow_nil _ _ _ _⟩, ⟨_, e1 3 _ rfl, World.ownsRow_nil _ _ _ _⟩⟩, cell_new (by simp) rfl, typ_fresh (by simp), hb.trans (hb2.mono (Nat.le_of_lt hlt)), hlt, bkeep hb2 r0, bkeep hb2 r1, bkeep hb2 r2, bkeep hb2 r3, fun j => ?_, ⟨(hT.keep hb).keep hb2, ?_⟩⟩
  · exact typ_keep (typ_fresh rfl) (bal (Below.refl _ _) _)
  · exact (Free.new rfl).keep (bal (Below.refl _ _) _)
  · rw [World.frozen?_of_block (w := w1) (hb2.block _ hlt)]; exact rf j
  · exact Nat.lt_of_lt_of_le (cell_lt (hT 0 (by decide))) (Nat.le_of_lt hlt)
end Go.Proofs.YtdllbdfchloijaaDoor

/- eval, in plain Lean: whether a program evaluates; the one that is told does. -/
namespace Go.Proofs.YtdllbdfchloijaaDoor
open Num
open Det (isum isum_congr hv pf is_one)
set_option linter.unusedVariables false
set_option linter.unusedSimpArgs false
/-- rows with a 1 each -/
def unitG (k : Nat) : Grid := (List.range k).map fun i => (List.range k).map fun j => if j = i then (1 : Int) else 0
theorem unitG_len (k : Nat) : (unitG k).length = k := by simp [unitG]
theorem unitG_row {k i : Nat} (h : i < k) : (unitG k).getD i [] = (List.range k).map fun j => if j = i then (1 : Int) else 0 := by simp [unitG, h]
theorem unitG_rect (k : Nat) : Rect k (unitG k) := fun i hi => by
  rw [unitG_len] at hi
  rw [unitG_row hi]; simp
theorem unitG_bd (k : Nat) : BdG 1 (unitG k) := fun i j => by
  by_cases hi : i < k
  · rw [unitG_row hi]
    by_cases hj : j < k
    · rw [show ((List.range k).map fun j => if j = i then (1 : Int) else 0).getD j 0 = if j = i then 1 else 0 by simp [hj]]
      unfold Bd; split <;> decide
    · rw [List.getD_eq_getElem?_getD, List.getElem?_eq_none (by simp; omega)]; exact bd_zero
  · rw [List.getD_eq_getElem?_getD (l := unitG k), List.getElem?_eq_none (by rw [unitG_len]; omega)]; exact bd_zero
theorem start_rect {m R : Nat} {g : Grid} (h : Rect m g) (hl : g.length ≤ R) : Rect m (startG g R m) := fun i hi => by
  unfold startG at hi ⊢
  by_cases e : i < g.length
  · rw [List.getD_eq_getElem?_getD, List.getElem?_append_left e, ← List.getD_eq_getElem?_getD]; exact h i e
  · rw [List.length_append, List.length_replicate] at hi
    rw [List.getD_eq_getElem?_getD, List.getElem?_append_right (by omega), List.getElem?_replicate, if_pos (by omega)]; simp
theorem start_col {m R j : Nat} {g : Grid} (hj : j < m) : colG (startG g R m) j = startN (colG g j) R := by
  unfold colG startG startN
  rw [List.map_append, List.map_replicate, List.length_map]
  congr 2
  simp [hj]
/-- no instruction that may fail -/
def NoDiv (code : List Ins) : Prop := ∀ n, n < code.length → (code.getD n default).op ≠ 6 ∧ (code.getD n default).op ≠ 8
theorem opI_some (i : Ins) (a b : Int) (h : i.op ≠ 6 ∧ i.op ≠ 8) : ∃ x, opI i a b = some x := by
  unfold opI
  repeat' split
  all_goals first | exact ⟨_, rfl⟩ | (exfalso; omega)
theorem nodiv_after {code : List Ins} (g : Grid) (h : NoDiv code) : ∀ n, n ≤ code.length → ∃ s, after code g n = some s := by
  intro n
  induction n with
  | zero => intro _; exact ⟨g, rfl⟩
  | succ n ih =>
    intro hn
    obtain ⟨s, hs⟩ := ih (by omega)
    rw [after, hs, Option.bind_some]
    cases e : stepR (code.getD n default) (s.getD (code.getD n default).a.toNat []) (s.getD (code.getD n default).b.toNat []) with
    | some r => exact ⟨_, rfl⟩
    | none =>
      obtain ⟨k, _, h2⟩ := stepR_none e
      obtain ⟨x, hx⟩ := opI_some (code.getD n default) _ _ (h n (by omega))
      rw [hx] at h2; cases h2
/-- whether a program's outs are the powers of the points -/
def Evs (code : List Ins) (outs : List Int) (R k n : Nat) (f : Nat → Int × Int) : Prop :=
  ∀ s, after code (startG (unitG k) R k) code.length = some s → ∀ i, i < n → ∀ j, j < k → gat (outsG outs s) i j = pf (f i).1 (f i).2 k j
theorem hv_unit {k j : Nat} (hj : j < k) (a b : Int) : hv k (fun i => if j = i then 1 else 0) a b = pf a b k j := by
  unfold hv
  rw [is_one hj (fun m _ h => by dsimp only; rw [if_neg (Ne.symm h), Int.zero_mul])]
  dsimp only; rw [if_pos rfl, Int.one_mul]
theorem colG_unit {k j : Nat} (hj : j < k) : colG (unitG k) j = (List.range k).map fun i => if j = i then (1 : Int) else 0 := by
  unfold colG unitG
  rw [List.map_map]
  apply List.map_congr_left
  intro i _
  simp [hj]
theorem fine_all {k n : Nat} {f : Nat → Int × Int} (hq : ∀ i, i < n → Pt.PIn (f i).1 (f i).2) : ∀ m, m < (codeL k n f n).length → Fine (k + n + 1) k ((codeL k n f n).getD m default) := fun m hm => by
  rw [show (codeL k n f n).getD m default = (codeL k n f n)[m] by simp [hm]]
  exact fine_code f hq n (Nat.le_refl _) _ (List.getElem_mem hm)
theorem code_nodiv {k n : Nat} {f : Nat → Int × Int} (hq : ∀ i, i < n → Pt.PIn (f i).1 (f i).2) : NoDiv (codeL k n f n) := fun m hm => ⟨(fine_all hq m hm).2.1, (fine_all hq m hm).2.2.1⟩
/-- the program that is told evaluates -/
theorem code_evs {k n : Nat} {f : Nat → Int × Int} (hk : 1 ≤ k) (hq : ∀ i, i < n → Pt.PIn (f i).1 (f i).2) : Evs (codeL k n f n) (outsL k n) (k + n + 1) k n f := by
  intro s hs i hi j hj
  have hgl : (startG (unitG k) (k + n + 1) k).length = k + n + 1 := startG_len (by rw [unitG_len]; omega)
  have hc := col_after (start_rect (unitG_rect k) (by rw [unitG_len]; omega)) hgl (fun m hm => by
    have := (mayB_iff ..).1 (fine_all hq m hm).1
    omega) hj (Nat.le_refl _) hs
  rw [start_col hj, colG_unit hj] at hc
  obtain ⟨u, h1, h2⟩ := outs_run k n f (fun i => if j = i then 1 else 0) (startN ((List.range k).map fun i => if j = i then (1 : Int) else 0) (k + n + 1)) hk (by simp [startN]; omega) (fun i hi => by
    unfold startN
    rw [List.getD_eq_getElem?_getD, List.getElem?_append_left (by simpa using hi)]
    simp [hi])
  rw [hc] at h1
  cases h1
  have := h2 i hi
  rw [hv_unit hj, colG_get] at this
  rw [← this]
  unfold gat outsG
  rw [show ((outsL k n).map fun k => s.getD k.toNat []).getD i [] = s.getD ((outsL k n).getD i 0).toNat [] by simp [outsL_len, hi], outsL_get hi]
end Go.Proofs.YtdllbdfchloijaaDoor

/- eval: units; the reference's Units. -/
namespace Go.Proofs.YtdllbdfchloijaaDoor
open Pt
open Num
open Go.ChangeShapes Go.WideShapes Go.ChangeAt Go.RowKit
set_option linter.unusedVariables false
set_option linter.unusedSimpArgs false
attribute [local go_sem ↓] Go.wp_at_zero Go.wp_at_succ
theorem unit_take {k i : Nat} (h : i < k) : (unitG k).take i ++ [(unitG k).getD i []] = (unitG k).take (i + 1) := by
  have hl : i < (unitG k).length := by rw [unitG_len]; exact h
  rw [List.take_succ_eq_append_getElem hl]
  simp [hl]
theorem unit_at {k i : Nat} (h : i < k) : ∀ j, j < k → (fun m => if m = i then (1 : Int) else 0) j = ((unitG k).getD i []).getD j 0 := fun j hj => by
  rw [unitG_row h]; simp [hj]
theorem unit_rl {k i : Nat} (h : i < k) : ((unitG k).getD i []).length = k := by rw [unitG_row h]; simp
/-- a row of a made block -/
theorem row_made {R : World → Value → Int → Prop} {E : TypeId} {w : World} {base g k : Nat} {F : Nat → Int} {l : List Int} (h : IntsF R w g 0 k F) (ht : typOf w g = some E) (hk : k ≤ maxLen) (hg : base ≤ g) (hl : l.length = k) (he : ∀ j, j < k → F j = l.getD j 0) : IsRow R E base w (.slice (some ⟨g, 0, none⟩) k k) l := by
  subst hl
  exact ⟨_, _, rfl, Nat.le_refl _, hk, .inr ⟨g, 0, rfl, hg, ht, h.congr he⟩⟩
set_option maxRecDepth 100000 in
set_option maxHeartbeats 8000000 in
theorem units_c (k : Nat) (w : World) (hk : k ≤ 8) :
    Calls Tryd.prog 34 #[.int .i64 (k : Int)] w fun e w' => (∃ v, e = .returned v ∧ OwnL 27 (PRow w.heap.size) w w' v (unitG k)) ∧ Below w.heap.size w w' := by
  have hmk := mkInts k (by omega)
  have oc := fun W => of_c 1 W (by decide) (by decide)
  have HU := Lib.hid (unitG_len k)
  have HP := Lib.hid (prs_row lims_int 31 w.heap.size)
  have hB := Below.refl w.heap.size w
  go_enter Tryd.func34, Tryd.ntmps34
  go_wp2
  go_loopw [3, 7] (fun v x wr => ∃ i : Nat, i ≤ k ∧ x = .int .i64 i ∧ Hid (OwnL 27 (PRow w.heap.size) w wr v ((unitG k).take i))) (fun _ x _ => k - (intOf x).toNat)
  case atStart => exact ⟨0, Nat.zero_le _, rfl, Lib.hid (OwnL.nil _ _ hB)⟩
  case round =>
    obtain ⟨i, hi, rfl, hO⟩ := hrel
    obtain ⟨va, vc, hv⟩ := hO.out.ex
    have hl : ((unitG k).take i).length = i := by rw [List.length_take, HU.out]; omega
    rw [hl] at hv
    subst hv
    by_cases hlt : i < k
    · have hltI : (i : Int) < (k : Int) := by omega
      have HLT := Lib.hid hlt
      have HT := Lib.hid (unit_take hlt)
      have HRL := Lib.hid (And.intro (unit_rl hlt) (unit_at hlt))
      obtain ⟨row, hrow⟩ : ∃ r, (unitG k).getD i [] = r := ⟨_, rfl⟩
      rw [hrow] at HT HRL
      clear hrow
      have hBr := hO.out.bel
      have hBq := Below.refl wr.heap.size wr
      clear hl
      go_wp2_with fail
      refine (oc _).mono ?_
      rintro e w5 ⟨⟨v5, rfl, hi5⟩, hb5⟩
      have hk5 : Below wr.heap.size wr w5 := bthen (by repeat (first | exact Below.refl _ _ | exact hBq | refine Below.drew ?_ | refine below_drewN ?_ _ | refine bset ?_ (by simp <;> omega) _ | refine bal ?_ _)) hb5
      have HI := IntsF.keep lims_int (zcel_ints isInt_zero wr k 31 rfl) hb5
      have HF := (Free.new (w := wr) (c := zcel k) (t := 31) rfl).keep hb5
      have HTy := typ_keep (typ_fresh (w := wr) (c := zcel k) (t := 31) rfl) hb5
      obtain ⟨zn, za, zl, zc, z0, z1, -⟩ := HI.at0 hlt
      have z0f := HF.2 (i * 2)
      have z1f := HF.2 (i * 2 + 1)
      have zz := cell_lt z0
      have HX := Lib.hid (show ∀ (n : Bool) a l c, IsInt w5 (.agg #[.bool n, .slice a l c]) 1 → OwnL 27 (PRow w.heap.size) w ((w5.setCell ⟨wr.heap.size, i * 2, none⟩ (.bool n)).setCell ⟨wr.heap.size, i * 2 + 1, none⟩ (.slice a l c)) (.slice va i vc) ((unitG k).take i) ∧ PRow w.heap.size ((w5.setCell ⟨wr.heap.size, i * 2, none⟩ (.bool n)).setCell ⟨wr.heap.size, i * 2 + 1, none⟩ (.slice a l c)) (.slice (some ⟨wr.heap.size, 0, none⟩) k k) row from fun n a l c h => by
        have hbb : Below wr.heap.size wr ((w5.setCell ⟨wr.heap.size, i * 2, none⟩ (.bool n)).setCell ⟨wr.heap.size, i * 2 + 1, none⟩ (.slice a l c)) := bset (bset hk5 (p := ⟨wr.heap.size, i * 2, none⟩) (Nat.le_refl _) _) (p := ⟨wr.heap.size, i * 2 + 1, none⟩) (Nat.le_refl _) _
        exact ⟨hO.out.below HP.out hbb, row_made (HI.store0 lims_int hlt h) (by rw [typ_set, typ_set]; exact HTy) (by unfold maxLen; omega) hBr.size HRL.out.1 HRL.out.2⟩)
      have HI5 := Lib.hid hi5
      obtain ⟨n5, a5, c5, l5, rfl, -⟩ := hi5
      unfold iv at *
      obtain ⟨hO6, hR6⟩ := HX.out _ _ _ _ HI5.out
      have HO6 := Lib.hid hO6
      have HR6 := Lib.hid hR6
      have HLL := Lib.hid (show ((unitG k).take i).length = i by rw [List.length_take, HU.out]; omega)
      clear hO6 hR6 HX hO HI HF HTy hb5 hk5 hBq
      go_wp2_with (at_builtin; refine appL elRow HP.out (by decide) (by rfl) (by rfl) (HO6.out.below HP.out (bal (Below.refl _ _) _)) (HP.out.kp HR6.out (Kp.of_below _ (bal (Below.refl _ _) _))) (by rfl) (by rfl) (cell_new (by simp) rfl) (by rw [HLL.out]; omega) (by rw [HLL.out]; unfold maxLen; omega) ?_)
      intro v8 w8 hO8 _
      have HO8 := Lib.hid hO8
      rw [HT.out] at HO8
      have hlK := HLT.out
      clear hO8 HO6 HR6
      go_wp2
      exact ⟨⟨i + 1, hlK, by go_num, HO8⟩, measS hlK (by go_num) rfl⟩
    · obtain rfl : i = k := by omega
      have hltI : ¬ (i : Int) < (i : Int) := by omega
      have HE := Lib.hid (show (unitG i).take i = unitG i by rw [← HU.out]; rw [HU.out]; exact List.take_of_length_le (by rw [HU.out]; exact Nat.le_refl _))
      rw [HE.out] at hO
      go_wp2
      go_ret
      exact ⟨⟨_, rfl, hO.out⟩, hO.out.bel⟩
end Go.Proofs.YtdllbdfchloijaaDoor

