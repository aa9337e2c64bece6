/- EvalKnown: what the document's examples name. -/
import Derived.Test.YtdllbdfchloijaaDoorK19
import Derived.Test.YtdllbdfchloijaaDoorK23
import Derived.Test.YtdllbdfchloijaaDoorK14
set_option linter.unusedVariables false
set_option linter.unusedSimpArgs false
namespace Go.Proofs.YtdllbdfchloijaaDoor
open Pt
open Num
open Go.ChangeShapes Go.WideShapes Go.ChangeAt Go.RowKit
set_option linter.unusedVariables false
set_option linter.unusedSimpArgs false
attribute [local go_sem ↓] Go.wp_at_zero Go.wp_at_succ
/-- the examples of values: coefficients, points, texts, errors -/
def kL (i : Nat) : List Int := if i ≤ 1 then [1, 2, 3] else if i = 2 then [5] else if i = 3 then [5, 6] else if i = 4 then [] else [1]
def kA (i : Nat) : Int := if i = 0 then 2 else if i = 1 then 1 else if i = 4 then 1 else if i = 5 then 17 else 0
def kB (i : Nat) : Int := if i = 0 then 1 else if 4 ≤ i then 1 else 0
def kT (i : Nat) : List UInt8 := if i = 0 then [49, 55] else if i = 1 then [51] else if i = 2 then [53] else [48]
def kE (i : Nat) : Int := if 4 ≤ i then 2 else 0
theorem lt4 {i : Nat} (h : i < 4) : i = 0 ∨ i = 1 ∨ i = 2 ∨ i = 3 := by omega
theorem lt6 {i : Nat} (h : i < 6) : i = 0 ∨ i = 1 ∨ i = 2 ∨ i = 3 ∨ i = 4 ∨ i = 5 := by omega
theorem bd_of {l : List Int} {k : Nat} (h : ∀ x ∈ l, Bd k x) : ∀ j, Bd k (l.getD j 0) := fun j => by
  by_cases hj : j < l.length
  · rw [show l.getD j 0 = l[j] by simp [hj]]; exact h _ (List.getElem_mem hj)
  · rw [List.getD_eq_getElem?_getD, List.getElem?_eq_none (by omega)]; exact bd_zero
theorem k_good {i : Nat} (h : i < 4) : 1 ≤ (kL i).length ∧ (kL i).length ≤ 16 ∧ PIn (kA i) (kB i) ∧ (∀ j, Bd 8 ((kL i).getD j 0)) ∧ kE i = 0 ∧ ∃ z, hvL (kL i) (kA i) (kB i) = z ∧ Bd 8 z ∧ intTxt z = kT i := by
  rcases lt4 h with rfl | rfl | rfl | rfl
  · exact ⟨by decide, by decide, by unfold PIn; decide, bd_of (by unfold Bd; decide), rfl, 17, by kernel_rfl, by unfold Bd; decide, by kernel_rfl⟩
  · exact ⟨by decide, by decide, by unfold PIn; decide, bd_of (by unfold Bd; decide), rfl, 3, by kernel_rfl, by unfold Bd; decide, by kernel_rfl⟩
  · exact ⟨by decide, by decide, by unfold PIn; decide, bd_of (by unfold Bd; decide), rfl, 5, by kernel_rfl, by unfold Bd; decide, by kernel_rfl⟩
  · exact ⟨by decide, by decide, by unfold PIn; decide, bd_of (by unfold Bd; decide), rfl, 0, by kernel_rfl, by unfold Bd; decide, by kernel_rfl⟩
theorem k_bad {i : Nat} (h : 4 ≤ i) (h6 : i < 6) : ¬ (1 ≤ (kL i).length ∧ (kL i).length ≤ 16 ∧ PIn (kA i) (kB i)) ∧ kE i = 2 ∧ intTxt 0 = kT i := by
  rcases lt6 h6 with rfl | rfl | rfl | rfl | rfl | rfl
  · omega
  · omega
  · omega
  · omega
  · exact ⟨by decide, rfl, by kernel_rfl⟩
  · exact ⟨by unfold PIn; decide, rfl, by kernel_rfl⟩
/-- the examples, as they lie in memory -/
def KF (B : Nat) (V : World) : Prop := ∀ i, i < 6 → ∃ a c, V.cell? ⟨B, i * 5, none⟩ = some (.slice a (kL i).length c) ∧ RowI V (.slice a (kL i).length c) (kL i) ∧ V.cell? ⟨B, i * 5 + 1, none⟩ = some (.int .i64 (kA i)) ∧ V.cell? ⟨B, i * 5 + 2, none⟩ = some (.int .i64 (kB i)) ∧ V.cell? ⟨B, i * 5 + 3, none⟩ = some (.string ⟨(kT i).toArray⟩) ∧ V.cell? ⟨B, i * 5 + 4, none⟩ = some (.int .i64 (kE i))
theorem KF.keep {B : Nat} {V W : World} (h : KF B V) (k : Below V.heap.size V W) : KF B W := fun i hi => by
  obtain ⟨a, c, h0, h1, h2, h3, h4, h5⟩ := h i hi
  exact ⟨a, c, bkeep k h0, h1.keep k, bkeep k h2, bkeep k h3, bkeep k h4, bkeep k h5⟩
set_option maxRecDepth 100000 in
theorem kf_new (w : World) (t ts : TypeId) : KF (w.heap.size + 1 + 1 + 1 + 1 + 1) ((((((w.alloc (.cells #[.int .i64 1, .int .i64 2, .int .i64 3] t)).alloc (.cells #[.int .i64 1, .int .i64 2, .int .i64 3] t)).alloc (.cells #[.int .i64 5] t)).alloc (.cells #[.int .i64 5, .int .i64 6] t)).alloc (.cells #[.int .i64 1] t)).alloc (.cells
    #[.slice (some ⟨w.heap.size, 0, none⟩) 3 3, .int .i64 2, .int .i64 1, .string ⟨#[49, 55]⟩, .int .i64 0,
      .slice (some ⟨w.heap.size + 1, 0, none⟩) 3 3, .int .i64 1, .int .i64 0, .string ⟨#[51]⟩, .int .i64 0,
      .slice (some ⟨w.heap.size + 1 + 1, 0, none⟩) 1 1, .int .i64 0, .int .i64 0, .string ⟨#[53]⟩, .int .i64 0,
      .slice (some ⟨w.heap.size + 1 + 1 + 1, 0, none⟩) 2 2, .int .i64 0, .int .i64 0, .string ⟨#[48]⟩, .int .i64 0,
      .slice none 0 0, .int .i64 1, .int .i64 1, .string ⟨#[48]⟩, .int .i64 2,
      .slice (some ⟨w.heap.size + 1 + 1 + 1 + 1, 0, none⟩) 1 1, .int .i64 17, .int .i64 1, .string ⟨#[48]⟩, .int .i64 2] ts)) := by
  intro i hi
  have hI : ∀ x ∈ kL i, I64 x := by
    intro x hx
    rcases lt6 hi with rfl | rfl | rfl | rfl | rfl | rfl <;> simp [kL] at hx <;> unfold I64 <;> omega
  rcases lt6 hi with rfl | rfl | rfl | rfl | rfl | rfl
  · refine ⟨some ⟨w.heap.size, 0, none⟩, 3, by simp [go_sem, kL], rowI_lit (fun k hk => ?_) hI, by simp [go_sem, kA], by simp [go_sem, kB], by simp [go_sem, kT], by simp [go_sem, kE]⟩
    rcases lt3 hk with rfl | rfl | rfl <;> simp [go_sem, kL]
  · refine ⟨some ⟨w.heap.size + 1, 0, none⟩, 3, by simp [go_sem, kL], rowI_lit (fun k hk => ?_) hI, by simp [go_sem, kA], by simp [go_sem, kB], by simp [go_sem, kT], by simp [go_sem, kE]⟩
    rcases lt3 hk with rfl | rfl | rfl <;> simp [go_sem, kL]
  · refine ⟨some ⟨w.heap.size + 1 + 1, 0, none⟩, 1, by simp [go_sem, kL], rowI_lit (fun k hk => ?_) hI, by simp [go_sem, kA], by simp [go_sem, kB], by simp [go_sem, kT], by simp [go_sem, kE]⟩
    obtain rfl : k = 0 := by simp [kL] at hk; omega
    simp [go_sem, kL]
  · refine ⟨some ⟨w.heap.size + 1 + 1 + 1, 0, none⟩, 2, by simp [go_sem, kL], rowI_lit (fun k hk => ?_) hI, by simp [go_sem, kA], by simp [go_sem, kB], by simp [go_sem, kT], by simp [go_sem, kE]⟩
    rcases (show k = 0 ∨ k = 1 by simp [kL] at hk; omega) with rfl | rfl <;> simp [go_sem, kL]
  · refine ⟨none, 0, by simp [go_sem, kL], ⟨none, 0, rfl, fun k hk => by simp [kL] at hk⟩, by simp [go_sem, kA], by simp [go_sem, kB], by simp [go_sem, kT], by simp [go_sem, kE]⟩
  · refine ⟨some ⟨w.heap.size + 1 + 1 + 1 + 1, 0, none⟩, 1, by simp [go_sem, kL], rowI_lit (fun k hk => ?_) hI, by simp [go_sem, kA], by simp [go_sem, kB], by simp [go_sem, kT], by simp [go_sem, kE]⟩
    obtain rfl : k = 0 := by simp [kL] at hk; omega
    simp [go_sem, kL]
theorem z2newK {w wn : World} {b : Bool} {a : Option Addr} {n c : Nat} {z : Int} {t : TypeId} {G : Prop} (hI : IsInt w (.agg #[.bool b, .slice a n c]) z) (hW : wn = w.alloc (.cells #[.bool b, .slice a n c] t)) (k : wn.cell? ⟨w.heap.size, 0, none⟩ = some (.bool b) → wn.cell? ⟨w.heap.size, 1, none⟩ = some (.slice a n c) → Hid (IsInt wn (.agg #[.bool b, .slice a n c]) z) → G) : G := by
  subst hW
  exact k (cell_new rfl rfl) (cell_new rfl rfl) (Lib.hid (hI.keep (bal (Below.refl _ _) _)))
theorem z2putK {w wn : World} {X : Nat} {b b' : Bool} {a a' : Option Addr} {n c n' c' : Nat} {z : Int} {G : Prop} (hI : IsInt w (.agg #[.bool b, .slice a n c]) z) (h0 : w.cell? ⟨X, 0, none⟩ = some (.bool b')) (h1 : w.cell? ⟨X, 1, none⟩ = some (.slice a' n' c')) (hW : wn = (w.setCell ⟨X, 0, none⟩ (.bool b)).setCell ⟨X, 1, none⟩ (.slice a n c)) (k : wn.cell? ⟨X, 0, none⟩ = some (.bool b) → wn.cell? ⟨X, 1, none⟩ = some (.slice a n c) → Hid (IsInt wn (.agg #[.bool b, .slice a n c]) z) → G) : G := by
  subst hW
  exact k (cell_far (cell_here h0 _) (by simp) _) (cell_here (cell_far h1 (by simp) _) _) (Lib.hid (hI.put2 h0 h1 _ _))
def P4 : List Int := [0, 1, 1, 1, -1, 1, 1, 0]
def pL1 : List Int := [0, 1, 1, 0, 1, 1]
def pL2 : List Int := [0, 1, 1, 1, -1, 1]
def eD : List Ins := [⟨3, 2, 0, 1, 0⟩, ⟨6, 2, 2, 0, 1⟩]
theorem lt2 {i : Nat} (h : i < 2) : i = 0 ∨ i = 1 := by omega
theorem lt8 {i : Nat} (h : i < 8) : i = 0 ∨ i = 1 ∨ i = 2 ∨ i = 3 ∨ i = 4 ∨ i = 5 ∨ i = 6 ∨ i = 7 := by omega
theorem p4_ok : PtsOk 4 (evF P4) := by
  refine ⟨by decide, by decide, fun i hi => ?_⟩
  rcases lt4 hi with rfl | rfl | rfl | rfl <;> (unfold PIn evF P4; decide)
theorem pL1_ok : PtsOk 3 (evF pL1) := by
  refine ⟨by decide, by decide, fun i hi => ?_⟩
  rcases lt3 hi with rfl | rfl | rfl <;> (unfold PIn evF pL1; decide)
theorem pL2_ok : PtsOk 3 (evF pL2) := by
  refine ⟨by decide, by decide, fun i hi => ?_⟩
  rcases lt3 hi with rfl | rfl | rfl <;> (unfold PIn evF pL2; decide)
theorem p00_ok : PtsOk 1 (evF [0, 0]) := by
  refine ⟨by decide, by decide, fun i hi => ?_⟩
  obtain rfl : i = 0 := by omega
  unfold PIn evF; decide
theorem v4_is : valsL [1, -1] 4 (evF P4) = [1, 0, 2, -1] := by kernel_rfl
theorem eD_ok : ProgOk 2 3 eD eO := by
  refine ⟨by decide, by decide, by decide, by decide, by decide, by decide, fun k hk => ?_, fun k hk => ?_⟩
  · rcases lt3 hk with rfl | rfl | rfl <;> decide
  · rcases lt2 hk with rfl | rfl <;> decide
theorem e_not1 : ¬ EvIs 2 3 eC eO (2 : Nat) 3 (evF pL1) := fun h => by
  have := h.2.2.2 _ e_after 1 (by decide) 0 (by decide)
  revert this; decide
theorem e_not2 : ¬ EvIs 2 3 eC eO (2 : Nat) 3 (evF pL2) := fun h => by
  have := h.2.2.2 _ e_after 2 (by decide) 0 (by decide)
  revert this; decide
theorem e_not3 : ¬ EvIs 2 3 eD eO (2 : Nat) 3 (evF eP) := fun h => (h.2.2.1 1 (by decide)).1 rfl
theorem z_not : ¬ ProgOk 0 0 [] [] := fun h => by have := h.i1; omega
theorem EvPost.isnt {ins R : Int} {code : List Ins} {outs : List Int} {k n : Nat} {f : Nat → Int × Int} {w w' : World} {e : Ending} (h : EvPost ins R code outs k n f w e w') (h1 : ProgOk ins R code outs) (h2 : ¬ EvIs ins R code outs k n f) : e = .returned (.tuple #[.bool false, .int .i64 0]) ∧ Below w.heap.size w w' := by
  obtain ⟨h | h | h, hb⟩ := h
  · exact absurd h1 h.1
  · exact absurd h.2.1 h2
  · exact ⟨h.2.2, hb⟩
theorem EvPost.bad {ins R : Int} {code : List Ins} {outs : List Int} {k n : Nat} {f : Nat → Int × Int} {w w' : World} {e : Ending} (h : EvPost ins R code outs k n f w e w') (h1 : ¬ ProgOk ins R code outs) : e = .returned (.tuple #[.bool false, .int .i64 80]) ∧ Below w.heap.size w w' := by
  obtain ⟨h | h | h, hb⟩ := h
  · exact ⟨h.2, hb⟩
  · exact absurd h.1 h1
  · exact absurd h.1 h1
theorem heap_two (w : World) (a b c : Obj) : (((w.alloc a).alloc b).alloc c).heap[w.heap.size + 1]? = some b := by
  have h1 : (w.alloc a).heap.size = w.heap.size + 1 := by simp
  have h2 : ((w.alloc a).alloc b).heap[w.heap.size + 1]? = some b := by rw [← h1]; exact (MapKept.heap_alloc (w.alloc a) b).1
  have h3 := (MapKept.heap_alloc ((w.alloc a).alloc b) c).2 (w.heap.size + 1) (by simp)
  rw [h3]; exact h2
/-- the example, its instructions in a row of the call's own -/
theorem example11_o (w : World) : Calls Tryd.prog 17 #[] w fun e w' => (∃ a b, e = .returned (.agg #[.int .i64 2, .int .i64 3, .slice (some a) 1 1, .slice (some b) 3 3]) ∧ w'.ownsRow w.heap.size 53 5 (.slice (some a) 1 1) 1 (pcel eC) ∧ IntsV w' (some b) 3 eO ∧ FromA w.heap.size 3 w' (some b)) ∧ Below w.heap.size w w' := by
  have hB := Below.refl w.heap.size w
  go_enter Tryd.func17, Tryd.ntmps17
  go_wp2
  refine bodyPost_ret (v := .agg #[.int .i64 2, .int .i64 3, .slice (some ⟨w.heap.size + 1, 0, none⟩) 1 1, .slice (some ⟨w.heap.size + 1 + 1, 0, none⟩) 3 3]) (by simp [results, Tryd.results17, go_sem]) rfl ⟨⟨_, _, rfl, ⟨rfl, .inr ⟨w.heap.size + 1, 1, #[.int .i64 3, .int .i64 2, .int .i64 0, .int .i64 1, .int .i64 0], rfl, by omega, ?_, Nat.le_refl _, by unfold maxLen; omega, rfl, rfl⟩⟩, .inr ⟨_, _, rfl, Nat.le_refl _, fun k hk => ?_⟩, ?_⟩, by repeat (first | exact Below.refl _ _ | exact hB | refine Below.drew ?_ | refine below_drewN ?_ _ | refine bset ?_ (by simp <;> omega) _ | refine bal ?_ _)⟩
  · exact heap_two _ _ _ _
  · rcases lt3 hk with rfl | rfl | rfl <;> simp [go_sem, eO]
  · intro p e
    cases e
    refine ⟨by show w.heap.size ≤ w.heap.size + 1 + 1; omega, typ_fresh (by simp)⟩
theorem prow_k {w : World} {v : Value} {l : List Int} {n : Nat} (h : PRow 0 w v l) (hl : l.length = n) (hn : 0 < n) : ∃ b off c, v = .slice (some ⟨b, off, none⟩) n c ∧ ∀ j, j < n → ∃ nb ad ln cp, w.cell? ⟨b, off + j * 2, none⟩ = some (.bool nb) ∧ w.cell? ⟨b, off + j * 2 + 1, none⟩ = some (.slice ad ln cp) ∧ IsInt w (.agg #[.bool nb, .slice ad ln cp]) (l.getD j 0) := by
  obtain ⟨a, c, rfl, -, vr⟩ := h.view
  obtain ⟨b, off, -, -, -, -, rfl, -⟩ := vr 0 (by omega)
  refine ⟨b, off, c, by rw [hl], fun j hj => ?_⟩
  obtain ⟨_, _, nb, ad, ln, cp, e, h1, h2, h3⟩ := vr j (by omega)
  cases e
  exact ⟨nb, ad, ln, cp, h1, h2, h3⟩
theorem IntsV.kpK {S : TypeId → Prop} {w w' : World} {B : Nat} {t : TypeId} {a : Option Addr} {c : Nat} {L : List Int} (h : IntsV w a c L) (hf : FromA B t w a) (k : Kp S w w') (hs : S t) : IntsV w' a c L := by
  rcases h with h | ⟨b, off, h1, h2, h3⟩
  · exact .inl h
  · exact .inr ⟨b, off, h1, h2, fun j hj => k.cell (hf _ h1).2 hs (h3 j hj)⟩
theorem two_cells {w : World} {g : Nat} (t : TypeId) (hg : g = w.heap.size) : ∀ k, k < 2 → (w.alloc (.cells #[.int .i64 0, .int .i64 0] t)).cell? ⟨g, 0 + k, none⟩ = some (.int .i64 (([0, 0] : List Int).getD k 0)) := by
  intro k hk
  rcases lt2 hk with rfl | rfl <;> exact cell_new hg rfl
theorem p1_ok : ProgOk 1 3 [] [0] := by
  refine ⟨by decide, by decide, by decide, by decide, by decide, by decide, fun k hk => ?_, fun k hk => absurd hk (by simp)⟩
  obtain rfl : k = 0 := by have : k < 1 := hk; omega
  decide
theorem p1_is : EvIs 1 3 [] [0] (1 : Nat) 1 (evF [0, 0]) := p_is 1 1 (evF [0, 0]) (by decide) p00_ok.2.2
theorem typ_ne {w : World} {p q : Nat} {s t : TypeId} (h1 : typOf w p = some s) (h2 : typOf w q = some t) (hne : s ≠ t) : p ≠ q := fun e => hne (by subst e; rw [h1] at h2; exact Option.some.inj h2)
set_option maxRecDepth 100000 in
set_option maxHeartbeats 16000000 in
theorem evalKnown_h (w : World) (hT : Tz64 w) : Calls Tryd.prog 4 #[] w fun e w' => e = .returned (.bool true) ∧ Below w.heap.size w w' := by
  have hB := Below.refl w.heap.size w
  have HT := Lib.hid hT
  clear hT
  go_enter Tryd.func4, Tryd.ntmps4
  go_wp2_with fail
  (with_reducible refine (works11_c _ ?_).mono ?_)
  · exact HT.out
  rintro e w1 ⟨rfl, hb1⟩
  have hB1 : Below w.heap.size w w1 := bthen (by repeat (first | exact Below.refl _ _ | exact hB | refine Below.drew ?_ | refine below_drewN ?_ _ | refine bset ?_ (by simp <;> omega) _ | refine bal ?_ _)) hb1
  have hBw := Below.refl w1.heap.size w1
  clear hb1 hB
  go_wp2
  go_loopw [47] (fun x wr => ∃ i : Nat, i ≤ 6 ∧ x = .int .i64 i ∧ Below w1.heap.size w1 wr ∧ Hid (KF (w1.heap.size + 1 + 1 + 1 + 1 + 1) wr)) (fun x _ => 6 - (intOf x).toNat)
  case atStart => exact ⟨0, by omega, rfl, by repeat (first | exact Below.refl _ _ | exact hBw | refine Below.drew ?_ | refine below_drewN ?_ _ | refine bset ?_ (by simp <;> omega) _ | refine bal ?_ _), Lib.hid (kf_new w1 _ _)⟩
  case round =>
    obtain ⟨i, hi, rfl, hBr, hK⟩ := hrel
    clear hBw
    by_cases hlt : i < 6
    · have hltI : (i : Int) < 6 := by omega
      have hl := hlt
      obtain ⟨ad, cp, c0, hrow, c1, c2, c3, c4⟩ := hK.out i hlt
      have HG := Lib.hid (fun h => k_good (i := i) h)
      have HBAD := Lib.hid (fun h => k_bad (i := i) h hlt)
      obtain ⟨l, hlE⟩ : ∃ x, kL i = x := ⟨_, rfl⟩
      obtain ⟨pa, hpa⟩ : ∃ x, kA i = x := ⟨_, rfl⟩
      obtain ⟨pb, hpb⟩ : ∃ x, kB i = x := ⟨_, rfl⟩
      obtain ⟨T, hT⟩ : ∃ x, kT i = x := ⟨_, rfl⟩
      obtain ⟨E, hE⟩ : ∃ x, kE i = x := ⟨_, rfl⟩
      rw [hlE, hpa, hpb, hT, hE] at HG HBAD
      rw [hlE] at c0 hrow
      rw [hpa] at c1
      rw [hpb] at c2
      rw [hT] at c3
      rw [hE] at c4
      have HLL := Lib.hid (show l.length ≤ 400 by rw [← hlE]; unfold kL; split <;> (try split) <;> (try split) <;> (try split) <;> decide)
      obtain ⟨ln, hln⟩ : ∃ x, l.length = x := ⟨_, rfl⟩
      rw [hln] at c0 hrow HG HBAD HLL
      have HLN := Lib.hid hln
      have HRW := Lib.hid hrow
      have zc := cell_lt c0
      have hBw := Below.refl wr.heap.size wr
      clear hlE hpa hpb hT hE hln hrow hlt
      go_upto_region 6 with (fail)
      refine wp_name fun wy hWy => ?_
      have hky : Below wr.heap.size wr wy := by rw [hWy]; repeat (first | exact Below.refl _ _ | exact hBw | refine Below.drew ?_ | refine below_drewN ?_ _ | refine bset ?_ (by simp <;> omega) _ | refine bal ?_ _)
      have t0 : wy.cell? ⟨wr.heap.size, 0, none⟩ = some (.slice ad ln cp) := by rw [hWy]; simp [go_sem]
      have t1 : wy.cell? ⟨wr.heap.size, 1, none⟩ = some (.int .i64 pa) := by rw [hWy]; simp [go_sem]
      have t2 : wy.cell? ⟨wr.heap.size, 2, none⟩ = some (.int .i64 pb) := by rw [hWy]; simp [go_sem]
      have t3 : wy.cell? ⟨wr.heap.size, 3, none⟩ = some (.string ⟨T.toArray⟩) := by rw [hWy]; simp [go_sem]
      have t4 : wy.cell? ⟨wr.heap.size, 4, none⟩ = some (.int .i64 E) := by rw [hWy]; simp [go_sem]
      have HS := Lib.hid (show ∀ V, Below wy.heap.size wy V → V.cell? ⟨wr.heap.size, 0, none⟩ = some (.slice ad ln cp) ∧ V.cell? ⟨wr.heap.size, 1, none⟩ = some (.int .i64 pa) ∧ V.cell? ⟨wr.heap.size, 2, none⟩ = some (.int .i64 pb) ∧ V.cell? ⟨wr.heap.size, 3, none⟩ = some (.string ⟨T.toArray⟩) ∧ V.cell? ⟨wr.heap.size, 4, none⟩ = some (.int .i64 E) from fun V q => ⟨bkeep q t0, bkeep q t1, bkeep q t2, bkeep q t3, bkeep q t4⟩)
      have zt := cell_lt t0
      have LX := Lib.hid (fun V (q : Below wy.heap.size wy V) => (show Calls Tryd.prog 8 #[.slice ad ln cp] V (fun e w' => (∃ a c, e = .returned (.slice a ln c) ∧ PRow 0 w' (.slice a ln c) l) ∧ Below V.heap.size V w') from by
        refine (list11_c (.slice ad ln cp) l V (HRW.out.keep (bthen hky q)) (by rw [HLN.out]; exact HLL.out)).mono ?_
        rintro e w' ⟨⟨v, rfl, hv⟩, hb⟩
        obtain ⟨a, c, rfl⟩ := hv.ex
        have h2 := hv.row.rebase (Nat.zero_le _)
        rw [HLN.out] at h2 ⊢
        exact ⟨⟨a, c, rfl, h2⟩, hb⟩))
      clear hWy hBw c0 c1 c2 c3 c4
      have hBw := Below.refl wy.heap.size wy
      by_cases h4 : i < 4
      · obtain ⟨g1, g2, g3, g4, rfl, z, hz, gz, gt⟩ := HG.out h4
        have HBZ := Lib.hid gz
        have HTX := Lib.hid gt
        have VC := Lib.hid (fun a c V (hv : PRow 0 V (.slice a ln c) l) => (show Calls Tryd.prog 11 #[.slice a ln c, pv pa pb] V (fun e w' => (∃ u, e = .returned (.tuple #[u, .int .i64 0]) ∧ IsInt w' u z) ∧ Below V.heap.size V w') from by rw [← hz]; exact value_c (.slice a ln c) l 8 pa pb V hv (by rw [HLN.out]; exact g1) (by rw [HLN.out]; exact g2) g3 g4 (by decide)))
        clear g1 g2 g3 g4 hz gz gt HG HBAD h4
        go_region_law (go_simp; go_wp2_with (first
          | (go_at_call 8; refine (LX.out _ ?_).mono ?_; (repeat (first | exact Below.refl _ _ | exact hBw | refine Below.drew ?_ | refine below_drewN ?_ _ | refine bset ?_ (by simp <;> omega) _ | refine bal ?_ _)); rintro e w7 ⟨⟨r7, q7, rfl, hv7⟩, hb7⟩; (have hBd : Below wy.heap.size wy w7 := bthen (by repeat (first | exact Below.refl _ _ | exact hBw | refine Below.drew ?_ | refine below_drewN ?_ _ | refine bset ?_ (by simp <;> omega) _ | refine bal ?_ _)) hb7; clear hBw; have hBw := hBd; clear hBd); obtain ⟨t0, t1, t2, t3, t4⟩ := HS.out w7 hBw; have zt7 := cell_lt t0; have HV7 := Lib.hid hv7; have hy7 := Below.refl w7.heap.size w7; clear hv7; have hc7 := (bcell hb7).1; have hf7 := (bcell hb7).2; have hs7 := hb7.size; (try simp [go_sem] at hs7); (try have qa : wy.heap.size < w7.heap.size := by omega))
          | (go_at_call 11; refine (VC.out _ _ _ (IsRow.keep lims_int HV7.out ?_)).mono ?_; (repeat (first | exact Below.refl _ _ | exact hy7 | refine Below.drew ?_ | refine below_drewN ?_ _ | refine bset ?_ (by simp <;> omega) _ | refine bal ?_ _)); rintro e w8 ⟨⟨u8, rfl, hu8⟩, hb8⟩; (have hBd : Below wy.heap.size wy w8 := bthen (by repeat (first | exact Below.refl _ _ | exact hBw | refine Below.drew ?_ | refine below_drewN ?_ _ | refine bset ?_ (by simp <;> omega) _ | refine bal ?_ _)) hb8; clear hBw; have hBw := hBd; clear hBd); obtain ⟨t0, t1, t2, t3, t4⟩ := HS.out w8 hBw; have zt8 := cell_lt t0; have hc8 := (bcell hb8).1; have hf8 := (bcell hb8).2; have hs8 := hb8.size; (try simp [go_sem] at hs8); (try have qa : wy.heap.size < w8.heap.size := by omega); have HU8 := Lib.hid hu8; obtain ⟨un, ud, ul, uk, rfl⟩ := hu8.litE)
          | fail))
        all_goals
          clear LX VC
          go_upto_region 7 with (fail)
          refine wp_name fun wn hWn => ?_
          have hBn : Below wy.heap.size wy wn := by rw [hWn]; repeat (first | exact Below.refl _ _ | exact hBw | refine Below.drew ?_ | refine below_drewN ?_ _ | refine bset ?_ (by simp <;> omega) _ | refine bal ?_ _)
          first
            | (refine z2newK HU8.out hWn (fun z0 z1 HZ => ?_); generalize w8.heap.size = X at z0 z1 ⊢)
            | (refine z2putK HU8.out (bkeep hb8 (cell_new rfl rfl)) (bkeep hb8 (cell_new rfl rfl)) hWn (fun z0 z1 HZ => ?_); generalize w7.heap.size = X at z0 z1 ⊢)
            | (refine z2putK HU8.out (bkeep hb8 (cell_drew (cell_new rfl rfl))) (bkeep hb8 (cell_drew (cell_new rfl rfl))) hWn (fun z0 z1 HZ => ?_); generalize w7.heap.size = X at z0 z1 ⊢)
            | (refine z2putK HU8.out (bkeep hb8 (bkeep hb7 (cell_new rfl rfl))) (bkeep hb8 (bkeep hb7 (cell_new rfl rfl))) hWn (fun z0 z1 HZ => ?_); generalize wy.heap.size = X at z0 z1 ⊢)
            | (refine z2putK HU8.out (bkeep hb8 (cell_drew (bkeep hb7 (cell_new rfl rfl)))) (bkeep hb8 (cell_drew (bkeep hb7 (cell_new rfl rfl)))) hWn (fun z0 z1 HZ => ?_); generalize wy.heap.size = X at z0 z1 ⊢)
            | (refine z2putK HU8.out (bkeep hb8 (bkeep hb7 (cell_drew (cell_new rfl rfl)))) (bkeep hb8 (bkeep hb7 (cell_drew (cell_new rfl rfl)))) hWn (fun z0 z1 HZ => ?_); generalize wy.heap.size = X at z0 z1 ⊢)
            | (refine z2putK HU8.out (bkeep hb8 (cell_drew (bkeep hb7 (cell_drew (cell_new rfl rfl))))) (bkeep hb8 (cell_drew (bkeep hb7 (cell_drew (cell_new rfl rfl))))) hWn (fun z0 z1 HZ => ?_); generalize wy.heap.size = X at z0 z1 ⊢)
          clear hWn hc7 hf7 hc8 hf8 hb7 hb8
          have hBz := bthen hBr (bthen hky hBn)
          have zz := cell_lt z0
          obtain ⟨t0, t1, t2, t3, t4⟩ := HS.out wn hBn
          have zt := cell_lt t3
          have HKn := Lib.hid (hK.out.keep (bthen hky hBn))
          have hBq := Below.refl wn.heap.size wn
          have TX := Lib.hid (fun V (q : Below wn.heap.size wn V) => intText_c (.agg #[.bool un, .slice ud ul uk]) z 8 V (HZ.out.keep q) HBZ.out (by decide))
          rw [HTX.out] at TX
          have HS7 := Lib.hid (show ∀ V, Below wn.heap.size wn V → V.cell? ⟨X, 0, none⟩ = some (.bool un) ∧ V.cell? ⟨X, 1, none⟩ = some (.slice ud ul uk) ∧ V.cell? ⟨wr.heap.size, 3, none⟩ = some (.string ⟨T.toArray⟩) ∧ V.cell? ⟨wr.heap.size, 4, none⟩ = some (.int .i64 0) from fun V q => ⟨bkeep q z0, bkeep q z1, bkeep q t3, bkeep q t4⟩)
          clear HS hBn t0 t1 t2 hBw
          go_region_held3 (fun V => V.cell? ⟨X, 0, none⟩ = some (.bool un) ∧ V.cell? ⟨X, 1, none⟩ = some (.slice ud ul uk) ∧ V.cell? ⟨wr.heap.size, 3, none⟩ = some (.string ⟨T.toArray⟩) ∧ V.cell? ⟨wr.heap.size, 4, none⟩ = some (.int .i64 0))
            (first | (refine HS7.out _ ?_; (repeat (first | exact Below.refl _ _ | exact hBq | refine Below.drew ?_ | refine below_drewN ?_ _ | refine bset ?_ (by simp <;> omega) _ | refine bal ?_ _)); done) | fail)
            (first
              | (go_at_call 13; refine (TX.out _ ?_).mono ?_; (repeat (first | exact Below.refl _ _ | exact hBq | refine Below.drew ?_ | refine below_drewN ?_ _ | refine bset ?_ (by simp <;> omega) _ | refine bal ?_ _)); rintro e w17 ⟨rfl, hb17⟩; (have hBd : Below wn.heap.size wn w17 := bthen (by repeat (first | exact Below.refl _ _ | exact hBq | refine Below.drew ?_ | refine below_drewN ?_ _ | refine bset ?_ (by simp <;> omega) _ | refine bal ?_ _)) hb17; clear hBq; have hBq := hBd; clear hBd))
              | fail)
          all_goals
            have hB2 := bthen hBz hBq
            have HK2 := Lib.hid (HKn.out.keep hBq)
            clear TX HS7
            go_wp2
            exact ⟨⟨i + 1, hl, by go_num, by repeat (first | exact Below.refl _ _ | exact hB2 | refine Below.drew ?_ | refine below_drewN ?_ _ | refine bset ?_ (by simp <;> omega) _ | refine bal ?_ _), HK2⟩, measE hl (by go_num) rfl⟩
      · obtain ⟨g1, rfl, gt⟩ := HBAD.out (by omega)
        have HBZ := Lib.hid (show Bd 8 0 by unfold Bd; decide)
        have HTX := Lib.hid gt
        have VC := Lib.hid (fun a c V (hv : PRow 0 V (.slice a ln c) l) => value_no (.slice a ln c) l pa pb V hv (by rw [HLN.out]; exact g1))
        clear g1 gt HG HBAD h4
        go_region_law (go_simp; go_wp2_with (first
          | (go_at_call 8; refine (LX.out _ ?_).mono ?_; (repeat (first | exact Below.refl _ _ | exact hBw | refine Below.drew ?_ | refine below_drewN ?_ _ | refine bset ?_ (by simp <;> omega) _ | refine bal ?_ _)); rintro e w7 ⟨⟨r7, q7, rfl, hv7⟩, hb7⟩; (have hBd : Below wy.heap.size wy w7 := bthen (by repeat (first | exact Below.refl _ _ | exact hBw | refine Below.drew ?_ | refine below_drewN ?_ _ | refine bset ?_ (by simp <;> omega) _ | refine bal ?_ _)) hb7; clear hBw; have hBw := hBd; clear hBd); obtain ⟨t0, t1, t2, t3, t4⟩ := HS.out w7 hBw; have zt7 := cell_lt t0; have HV7 := Lib.hid hv7; have hy7 := Below.refl w7.heap.size w7; clear hv7; have hc7 := (bcell hb7).1; have hf7 := (bcell hb7).2; have hs7 := hb7.size; (try simp [go_sem] at hs7); (try have qa : wy.heap.size < w7.heap.size := by omega))
          | (go_at_call 11; refine (VC.out _ _ _ (IsRow.keep lims_int HV7.out ?_)).mono ?_; (repeat (first | exact Below.refl _ _ | exact hy7 | refine Below.drew ?_ | refine below_drewN ?_ _ | refine bset ?_ (by simp <;> omega) _ | refine bal ?_ _)); rintro e w8 ⟨rfl, hb8⟩; (have hBd : Below wy.heap.size wy w8 := bthen (by repeat (first | exact Below.refl _ _ | exact hBw | refine Below.drew ?_ | refine below_drewN ?_ _ | refine bset ?_ (by simp <;> omega) _ | refine bal ?_ _)) hb8; clear hBw; have hBw := hBd; clear hBd); obtain ⟨t0, t1, t2, t3, t4⟩ := HS.out w8 hBw; have zt8 := cell_lt t0; have hc8 := (bcell hb8).1; have hf8 := (bcell hb8).2; have hs8 := hb8.size; (try simp [go_sem] at hs8); (try have qa : wy.heap.size < w8.heap.size := by omega); skip)
          | fail))
        all_goals
          clear LX VC
          go_upto_region 7 with (fail)
          refine wp_name fun wn hWn => ?_
          have hBn : Below wy.heap.size wy wn := by rw [hWn]; repeat (first | exact Below.refl _ _ | exact hBw | refine Below.drew ?_ | refine below_drewN ?_ _ | refine bset ?_ (by simp <;> omega) _ | refine bal ?_ _)
          first
            | (refine z2newK (isInt_zero w8) hWn (fun z0 z1 HZ => ?_); generalize w8.heap.size = X at z0 z1 ⊢)
            | (refine z2putK (isInt_zero w8) (bkeep hb8 (cell_new rfl rfl)) (bkeep hb8 (cell_new rfl rfl)) hWn (fun z0 z1 HZ => ?_); generalize w7.heap.size = X at z0 z1 ⊢)
            | (refine z2putK (isInt_zero w8) (bkeep hb8 (cell_drew (cell_new rfl rfl))) (bkeep hb8 (cell_drew (cell_new rfl rfl))) hWn (fun z0 z1 HZ => ?_); generalize w7.heap.size = X at z0 z1 ⊢)
            | (refine z2putK (isInt_zero w8) (bkeep hb8 (bkeep hb7 (cell_new rfl rfl))) (bkeep hb8 (bkeep hb7 (cell_new rfl rfl))) hWn (fun z0 z1 HZ => ?_); generalize wy.heap.size = X at z0 z1 ⊢)
            | (refine z2putK (isInt_zero w8) (bkeep hb8 (cell_drew (bkeep hb7 (cell_new rfl rfl)))) (bkeep hb8 (cell_drew (bkeep hb7 (cell_new rfl rfl)))) hWn (fun z0 z1 HZ => ?_); generalize wy.heap.size = X at z0 z1 ⊢)
            | (refine z2putK (isInt_zero w8) (bkeep hb8 (bkeep hb7 (cell_drew (cell_new rfl rfl)))) (bkeep hb8 (bkeep hb7 (cell_drew (cell_new rfl rfl)))) hWn (fun z0 z1 HZ => ?_); generalize wy.heap.size = X at z0 z1 ⊢)
            | (refine z2putK (isInt_zero w8) (bkeep hb8 (cell_drew (bkeep hb7 (cell_drew (cell_new rfl rfl))))) (bkeep hb8 (cell_drew (bkeep hb7 (cell_drew (cell_new rfl rfl))))) hWn (fun z0 z1 HZ => ?_); generalize wy.heap.size = X at z0 z1 ⊢)
          clear hWn hc7 hf7 hc8 hf8 hb7 hb8
          have hBz := bthen hBr (bthen hky hBn)
          have zz := cell_lt z0
          obtain ⟨t0, t1, t2, t3, t4⟩ := HS.out wn hBn
          have zt := cell_lt t3
          have HKn := Lib.hid (hK.out.keep (bthen hky hBn))
          have hBq := Below.refl wn.heap.size wn
          have TX := Lib.hid (fun V (q : Below wn.heap.size wn V) => intText_c (.agg #[.bool false, .slice none 0 0]) 0 8 V (HZ.out.keep q) HBZ.out (by decide))
          rw [HTX.out] at TX
          have HS7 := Lib.hid (show ∀ V, Below wn.heap.size wn V → V.cell? ⟨X, 0, none⟩ = some (.bool false) ∧ V.cell? ⟨X, 1, none⟩ = some (.slice none 0 0) ∧ V.cell? ⟨wr.heap.size, 3, none⟩ = some (.string ⟨T.toArray⟩) ∧ V.cell? ⟨wr.heap.size, 4, none⟩ = some (.int .i64 2) from fun V q => ⟨bkeep q z0, bkeep q z1, bkeep q t3, bkeep q t4⟩)
          clear HS hBn t0 t1 t2 hBw
          go_region_held3 (fun V => V.cell? ⟨X, 0, none⟩ = some (.bool false) ∧ V.cell? ⟨X, 1, none⟩ = some (.slice none 0 0) ∧ V.cell? ⟨wr.heap.size, 3, none⟩ = some (.string ⟨T.toArray⟩) ∧ V.cell? ⟨wr.heap.size, 4, none⟩ = some (.int .i64 2))
            (first | (refine HS7.out _ ?_; (repeat (first | exact Below.refl _ _ | exact hBq | refine Below.drew ?_ | refine below_drewN ?_ _ | refine bset ?_ (by simp <;> omega) _ | refine bal ?_ _)); done) | fail)
            (first
              | (go_at_call 13; refine (TX.out _ ?_).mono ?_; (repeat (first | exact Below.refl _ _ | exact hBq | refine Below.drew ?_ | refine below_drewN ?_ _ | refine bset ?_ (by simp <;> omega) _ | refine bal ?_ _)); rintro e w17 ⟨rfl, hb17⟩; (have hBd : Below wn.heap.size wn w17 := bthen (by repeat (first | exact Below.refl _ _ | exact hBq | refine Below.drew ?_ | refine below_drewN ?_ _ | refine bset ?_ (by simp <;> omega) _ | refine bal ?_ _)) hb17; clear hBq; have hBq := hBd; clear hBd))
              | fail)
          all_goals
            have hB2 := bthen hBz hBq
            have HK2 := Lib.hid (HKn.out.keep hBq)
            clear TX HS7
            go_wp2
            exact ⟨⟨i + 1, hl, by go_num, by repeat (first | exact Below.refl _ _ | exact hB2 | refine Below.drew ?_ | refine below_drewN ?_ _ | refine bset ?_ (by simp <;> omega) _ | refine bal ?_ _), HK2⟩, measE hl (by go_num) rfl⟩
    · obtain rfl : i = 6 := by omega
      have hB := bthen hB1 hBr
      have hBw := Below.refl wr.heap.size wr
      clear hi hlt hK hB1 hBr
      go_wp2_with fail
      (with_reducible refine (list11_c (.slice (some ⟨wr.heap.size, 0, none⟩) 2 2) [1, -1] _ ?_ (by decide)).mono ?_)
      · refine rowI_lit (l := [1, -1]) (fun k hk => ?_) (fun x hx => by simp at hx; rcases hx with rfl | rfl <;> (unfold I64; decide))
        rcases lt2 hk with rfl | rfl <;> exact cell_new rfl rfl
      rintro e w2 ⟨⟨v2, rfl, hv2⟩, hb2⟩
      have hk : Below wr.heap.size wr w2 := bthen (by repeat (first | exact Below.refl _ _ | exact hBw | refine Below.drew ?_ | refine below_drewN ?_ _ | refine bset ?_ (by simp <;> omega) _ | refine bal ?_ _)) hb2
      have HV2 := Lib.hid (show PRow 0 w2 v2 [1, -1] from hv2.row.rebase (Nat.zero_le _))
      obtain ⟨a2, c2, rfl⟩ := hv2.ex
      have hBn := bthen hB hk
      clear hb2 hv2 hB hBw hk
      have hB := hBn
      clear hBn
      have hBw := Below.refl w2.heap.size w2
      go_wp2_with fail
      (with_reducible refine (points11_c (w2.heap.size) 0 8 8 4 P4 _ rfl (by decide) ?_).mono ?_)
      · intro k hk
        rcases lt8 hk with rfl|rfl|rfl|rfl|rfl|rfl|rfl|rfl <;> first | exact cell_new rfl rfl | exact cell_new (by simp) rfl
      rintro e w3 ⟨⟨pa3, pc3, rfl, hpp⟩, hb3⟩
      have hk : Below w2.heap.size w2 w3 := bthen (by repeat (first | exact Below.refl _ _ | exact hBw | refine Below.drew ?_ | refine below_drewN ?_ _ | refine bset ?_ (by simp <;> omega) _ | refine bal ?_ _)) hb3
      have HP := Lib.hid hpp
      have hBn := bthen hB hk
      clear hb3 hpp hB hBw
      have hB := hBn
      clear hBn
      have hBw := Below.refl w3.heap.size w3
      have TC := Lib.hid (fun V (q : Below w3.heap.size w3 V) => (show Calls Tryd.prog 14 #[.slice a2 2 c2, .slice pa3 4 pc3] V (fun e w' => (∃ b off c, e = .returned (.tuple #[.slice (some ⟨b, off, none⟩) 4 c, .int .i64 0]) ∧ ∀ j, j < 4 → ∃ nb ad ln cp, w'.cell? ⟨b, off + j * 2, none⟩ = some (.bool nb) ∧ w'.cell? ⟨b, off + j * 2 + 1, none⟩ = some (.slice ad ln cp) ∧ IsInt w' (.agg #[.bool nb, .slice ad ln cp]) (([1, 0, 2, -1] : List Int).getD j 0)) ∧ Below V.heap.size V w') from by
        refine (values_c (.slice a2 2 c2) [1, -1] 8 pa3 4 pc3 (evF P4) V (IsRow.keep lims_int HV2.out (bthen hk q)) (by decide) (by decide) (HP.out.keep q) p4_ok (bd_of (by unfold Bd; decide)) (by decide)).mono ?_
        rintro e w' ⟨⟨va, rfl, hv⟩, hb⟩
        rw [v4_is] at hv
        obtain ⟨b, off, c, rfl, h⟩ := prow_k (hv.row.rebase (Nat.zero_le _)) rfl (show 0 < 4 by decide)
        exact ⟨⟨b, off, c, rfl, h⟩, hb⟩))
      go_wp2_with fail
      (with_reducible refine (TC.out _ ?_).mono ?_); (repeat (first | exact Below.refl _ _ | exact hBw | refine Below.drew ?_ | refine below_drewN ?_ _ | refine bset ?_ (by simp <;> omega) _ | refine bal ?_ _))
      rintro e w4 ⟨⟨gb, go, gc, rfl, hall⟩, hb4⟩
      have hk4 : Below w3.heap.size w3 w4 := bthen (by repeat (first | exact Below.refl _ _ | exact hBw | refine Below.drew ?_ | refine below_drewN ?_ _ | refine bset ?_ (by simp <;> omega) _ | refine bal ?_ _)) hb4
      have HALL := Lib.hid hall
      have hBn := bthen hB hk4
      clear TC hb4 hB hBw hk hk4 HV2 HP hall
      have hB := hBn
      clear hBn
      have hBw := Below.refl w4.heap.size w4
      obtain ⟨n0, d0, l0, k0, x0, y0, i0⟩ := HALL.out 0 (by decide)
      obtain ⟨n1, d1, l1, k1, x1, y1, i1⟩ := HALL.out 1 (by decide)
      obtain ⟨n2, d2, l2, k2, x2, y2, i2⟩ := HALL.out 2 (by decide)
      obtain ⟨n3, d3, l3, k3, x3, y3, i3⟩ := HALL.out 3 (by decide)
      have zx := cell_lt x0
      have I0 := Lib.hid i0
      have I1 := Lib.hid i1
      have I2 := Lib.hid i2
      have I3 := Lib.hid i3
      clear i0 i1 i2 i3 HALL
      simp at x0 y0 x1 y1 x2 y2 x3 y3
      have HX := Lib.hid (show ∀ V, Below w4.heap.size w4 V → V.cell? ⟨gb, go, none⟩ = some (.bool n0) ∧ V.cell? ⟨gb, go + 1, none⟩ = some (.slice d0 l0 k0) ∧ V.cell? ⟨gb, go + 2, none⟩ = some (.bool n1) ∧ V.cell? ⟨gb, go + 2 + 1, none⟩ = some (.slice d1 l1 k1) ∧ V.cell? ⟨gb, go + 4, none⟩ = some (.bool n2) ∧ V.cell? ⟨gb, go + 4 + 1, none⟩ = some (.slice d2 l2 k2) ∧ V.cell? ⟨gb, go + 6, none⟩ = some (.bool n3) ∧ V.cell? ⟨gb, go + 6 + 1, none⟩ = some (.slice d3 l3 k3) from fun V q => ⟨bkeep q x0, bkeep q y0, bkeep q x1, bkeep q y1, bkeep q x2, bkeep q y2, bkeep q x3, bkeep q y3⟩)
      have HB4 := Lib.hid hB
      have hk := hBw
      have TX := Lib.hid (fun V (q : Below w4.heap.size w4 V) => (show Calls Tryd.prog 13 #[.agg #[.bool n0, .slice d0 l0 k0]] V (fun e w' => e = .returned (.string ⟨([49] : List UInt8).toArray⟩) ∧ Below V.heap.size V w') from by
        have h := intText_c (.agg #[.bool n0, .slice d0 l0 k0]) 1 8 V (I0.out.keep (bthen hk q)) (by unfold Bd; decide) (by decide)
        rw [show intTxt 1 = [49] by kernel_rfl] at h
        exact h))
      have hBw := Below.refl w4.heap.size w4
      go_wp2_with fail
      (with_reducible refine (TX.out _ ?_).mono ?_); (repeat (first | exact Below.refl _ _ | exact hBw | refine Below.drew ?_ | refine below_drewN ?_ _ | refine bset ?_ (by simp <;> omega) _ | refine bal ?_ _))
      rintro e w5 ⟨rfl, hb5⟩
      have hkn : Below w4.heap.size w4 w5 := bthen hk (bthen (show Below w4.heap.size w4 _ by repeat (first | exact Below.refl _ _ | exact hBw | refine Below.drew ?_ | refine below_drewN ?_ _ | refine bset ?_ (by simp <;> omega) _ | refine bal ?_ _)) hb5)
      clear TX hb5 hBw hk x0 y0 x1 y1 x2 y2 x3 y3 zx
      have hk := hkn
      clear hkn
      obtain ⟨x0, y0, x1, y1, x2, y2, x3, y3⟩ := HX.out w5 hk
      have zx := cell_lt x0
      have TX := Lib.hid (fun V (q : Below w5.heap.size w5 V) => (show Calls Tryd.prog 13 #[.agg #[.bool n1, .slice d1 l1 k1]] V (fun e w' => e = .returned (.string ⟨([48] : List UInt8).toArray⟩) ∧ Below V.heap.size V w') from by
        have h := intText_c (.agg #[.bool n1, .slice d1 l1 k1]) 0 8 V (I1.out.keep (bthen hk q)) (by unfold Bd; decide) (by decide)
        rw [show intTxt 0 = [48] by kernel_rfl] at h
        exact h))
      have hBw := Below.refl w5.heap.size w5
      go_wp2_with fail
      (with_reducible refine (TX.out _ ?_).mono ?_); (repeat (first | exact Below.refl _ _ | exact hBw | refine Below.drew ?_ | refine below_drewN ?_ _ | refine bset ?_ (by simp <;> omega) _ | refine bal ?_ _))
      rintro e w6 ⟨rfl, hb6⟩
      have hkn : Below w4.heap.size w4 w6 := bthen hk (bthen (show Below w5.heap.size w5 _ by repeat (first | exact Below.refl _ _ | exact hBw | refine Below.drew ?_ | refine below_drewN ?_ _ | refine bset ?_ (by simp <;> omega) _ | refine bal ?_ _)) hb6)
      clear TX hb6 hBw hk x0 y0 x1 y1 x2 y2 x3 y3 zx
      have hk := hkn
      clear hkn
      obtain ⟨x0, y0, x1, y1, x2, y2, x3, y3⟩ := HX.out w6 hk
      have zx := cell_lt x0
      have TX := Lib.hid (fun V (q : Below w6.heap.size w6 V) => (show Calls Tryd.prog 13 #[.agg #[.bool n2, .slice d2 l2 k2]] V (fun e w' => e = .returned (.string ⟨([50] : List UInt8).toArray⟩) ∧ Below V.heap.size V w') from by
        have h := intText_c (.agg #[.bool n2, .slice d2 l2 k2]) 2 8 V (I2.out.keep (bthen hk q)) (by unfold Bd; decide) (by decide)
        rw [show intTxt 2 = [50] by kernel_rfl] at h
        exact h))
      have hBw := Below.refl w6.heap.size w6
      go_wp2_with fail
      (with_reducible refine (TX.out _ ?_).mono ?_); (repeat (first | exact Below.refl _ _ | exact hBw | refine Below.drew ?_ | refine below_drewN ?_ _ | refine bset ?_ (by simp <;> omega) _ | refine bal ?_ _))
      rintro e w7 ⟨rfl, hb7⟩
      have hkn : Below w4.heap.size w4 w7 := bthen hk (bthen (show Below w6.heap.size w6 _ by repeat (first | exact Below.refl _ _ | exact hBw | refine Below.drew ?_ | refine below_drewN ?_ _ | refine bset ?_ (by simp <;> omega) _ | refine bal ?_ _)) hb7)
      clear TX hb7 hBw hk x0 y0 x1 y1 x2 y2 x3 y3 zx
      have hk := hkn
      clear hkn
      obtain ⟨x0, y0, x1, y1, x2, y2, x3, y3⟩ := HX.out w7 hk
      have zx := cell_lt x0
      have TX := Lib.hid (fun V (q : Below w7.heap.size w7 V) => (show Calls Tryd.prog 13 #[.agg #[.bool n3, .slice d3 l3 k3]] V (fun e w' => e = .returned (.string ⟨([45, 49] : List UInt8).toArray⟩) ∧ Below V.heap.size V w') from by
        have h := intText_c (.agg #[.bool n3, .slice d3 l3 k3]) (-1) 8 V (I3.out.keep (bthen hk q)) (by unfold Bd; decide) (by decide)
        rw [show intTxt (-1) = [45, 49] by kernel_rfl] at h
        exact h))
      have hBw := Below.refl w7.heap.size w7
      go_wp2_with fail
      (with_reducible refine (TX.out _ ?_).mono ?_); (repeat (first | exact Below.refl _ _ | exact hBw | refine Below.drew ?_ | refine below_drewN ?_ _ | refine bset ?_ (by simp <;> omega) _ | refine bal ?_ _))
      rintro e w8 ⟨rfl, hb8⟩
      have hkn : Below w4.heap.size w4 w8 := bthen hk (bthen (show Below w7.heap.size w7 _ by repeat (first | exact Below.refl _ _ | exact hBw | refine Below.drew ?_ | refine below_drewN ?_ _ | refine bset ?_ (by simp <;> omega) _ | refine bal ?_ _)) hb8)
      clear TX hb8 hBw hk x0 y0 x1 y1 x2 y2 x3 y3 zx
      have hk := hkn
      clear hkn
      obtain ⟨x0, y0, x1, y1, x2, y2, x3, y3⟩ := HX.out w8 hk
      have zx := cell_lt x0
      have hB := bthen HB4.out hk
      have hBw := Below.refl w8.heap.size w8
      clear HX HB4 hk x0 y0 x1 y1 x2 y2 x3 y3 zx I0 I1 I2 I3
      go_wp2_with fail
      (with_reducible refine (example11_c _).mono ?_)
      rintro e w9 ⟨⟨ea, eb, rfl, hec, heo⟩, hb9⟩
      have hk : Below w8.heap.size w8 w9 := bthen (by repeat (first | exact Below.refl _ _ | exact hBw | refine Below.drew ?_ | refine below_drewN ?_ _ | refine bset ?_ (by simp <;> omega) _ | refine bal ?_ _)) hb9
      have HE := Lib.hid (And.intro hec heo)
      have hBn := bthen hB hk
      clear hb9 hec heo hB hBw hk
      have hB := hBn
      clear hBn
      have hBw := Below.refl w9.heap.size w9
      go_wp2_with fail
      (with_reducible refine (points11_c (w9.heap.size) 0 6 6 3 pL1 _ rfl (by decide) ?_).mono ?_)
      · intro k hk
        rcases lt6 hk with rfl|rfl|rfl|rfl|rfl|rfl <;> first | exact cell_new rfl rfl | exact cell_new (by simp) rfl
      rintro e w10 ⟨⟨pa10, pc10, rfl, hpp⟩, hb10⟩
      have hk : Below w9.heap.size w9 w10 := bthen (by repeat (first | exact Below.refl _ _ | exact hBw | refine Below.drew ?_ | refine below_drewN ?_ _ | refine bset ?_ (by simp <;> omega) _ | refine bal ?_ _)) hb10
      have HP := Lib.hid hpp
      have hBn := bthen hB hk
      clear hb10 hpp hB hBw
      have hB := hBn
      clear hBn
      have hBw := Below.refl w10.heap.size w10
      have EC := Lib.hid (fun V (q : Below w10.heap.size w10 V) => (show Calls Tryd.prog 16 #[.agg #[.int .i64 2, .int .i64 3, .slice (some ea) 1 1, .slice (some eb) 3 3], .int .i64 2, .slice pa10 3 pc10] V (fun e w' => e = .returned (.tuple #[.bool false, .int .i64 0]) ∧ Below V.heap.size V w') from (evals_c 2 3 (some ea) (some eb) 1 3 eC eO 2 pa10 3 pc10 (evF pL1) V (HE.out.1.keep (bthen hk q)) (HE.out.2.keep (bthen hk q)) (HP.out.keep q) (by decide) (by decide) pL1_ok).mono fun e w' h => h.isnt e_ok e_not1))
      clear hk
      go_wp2_with fail
      (with_reducible refine (EC.out _ ?_).mono ?_); (repeat (first | exact Below.refl _ _ | exact hBw | refine Below.drew ?_ | refine below_drewN ?_ _ | refine bset ?_ (by simp <;> omega) _ | refine bal ?_ _))
      rintro e w11 ⟨rfl, hb11⟩
      have hBn := bthen hB (bthen (show Below w10.heap.size w10 _ by repeat (first | exact Below.refl _ _ | exact hBw | refine Below.drew ?_ | refine below_drewN ?_ _ | refine bset ?_ (by simp <;> omega) _ | refine bal ?_ _)) hb11)
      clear EC HE HP hb11 hB hBw
      have hB := hBn
      clear hBn
      have hBw := Below.refl w11.heap.size w11
      go_wp2_with fail
      (with_reducible refine (example11_c _).mono ?_)
      rintro e w12 ⟨⟨ea, eb, rfl, hec, heo⟩, hb12⟩
      have hk : Below w11.heap.size w11 w12 := bthen (by repeat (first | exact Below.refl _ _ | exact hBw | refine Below.drew ?_ | refine below_drewN ?_ _ | refine bset ?_ (by simp <;> omega) _ | refine bal ?_ _)) hb12
      have HE := Lib.hid (And.intro hec heo)
      have hBn := bthen hB hk
      clear hb12 hec heo hB hBw hk
      have hB := hBn
      clear hBn
      have hBw := Below.refl w12.heap.size w12
      go_wp2_with fail
      (with_reducible refine (points11_c (w12.heap.size) 0 6 6 3 pL2 _ rfl (by decide) ?_).mono ?_)
      · intro k hk
        rcases lt6 hk with rfl|rfl|rfl|rfl|rfl|rfl <;> first | exact cell_new rfl rfl | exact cell_new (by simp) rfl
      rintro e w13 ⟨⟨pa13, pc13, rfl, hpp⟩, hb13⟩
      have hk : Below w12.heap.size w12 w13 := bthen (by repeat (first | exact Below.refl _ _ | exact hBw | refine Below.drew ?_ | refine below_drewN ?_ _ | refine bset ?_ (by simp <;> omega) _ | refine bal ?_ _)) hb13
      have HP := Lib.hid hpp
      have hBn := bthen hB hk
      clear hb13 hpp hB hBw
      have hB := hBn
      clear hBn
      have hBw := Below.refl w13.heap.size w13
      have EC := Lib.hid (fun V (q : Below w13.heap.size w13 V) => (show Calls Tryd.prog 16 #[.agg #[.int .i64 2, .int .i64 3, .slice (some ea) 1 1, .slice (some eb) 3 3], .int .i64 2, .slice pa13 3 pc13] V (fun e w' => e = .returned (.tuple #[.bool false, .int .i64 0]) ∧ Below V.heap.size V w') from (evals_c 2 3 (some ea) (some eb) 1 3 eC eO 2 pa13 3 pc13 (evF pL2) V (HE.out.1.keep (bthen hk q)) (HE.out.2.keep (bthen hk q)) (HP.out.keep q) (by decide) (by decide) pL2_ok).mono fun e w' h => h.isnt e_ok e_not2))
      clear hk
      go_wp2_with fail
      (with_reducible refine (EC.out _ ?_).mono ?_); (repeat (first | exact Below.refl _ _ | exact hBw | refine Below.drew ?_ | refine below_drewN ?_ _ | refine bset ?_ (by simp <;> omega) _ | refine bal ?_ _))
      rintro e w14 ⟨rfl, hb14⟩
      have hBn := bthen hB (bthen (show Below w13.heap.size w13 _ by repeat (first | exact Below.refl _ _ | exact hBw | refine Below.drew ?_ | refine below_drewN ?_ _ | refine bset ?_ (by simp <;> omega) _ | refine bal ?_ _)) hb14)
      clear EC HE HP hb14 hB hBw
      have hB := hBn
      clear hBn
      have hBw := Below.refl w14.heap.size w14
      go_wp2_with fail
      (with_reducible refine (example11_o _).mono ?_)
      rintro e w15 ⟨⟨ea, eb, rfl, hec, heo, hfo⟩, hb15⟩
      have hk : Below w14.heap.size w14 w15 := bthen (by repeat (first | exact Below.refl _ _ | exact hBw | refine Below.drew ?_ | refine below_drewN ?_ _ | refine bset ?_ (by simp <;> omega) _ | refine bal ?_ _)) hb15
      have HO := Lib.hid (show w15.ownsRow w14.heap.size 53 5 (.slice (some ea) 1 1) 1 (pcel eC) from by first | exact hec | exact (show _ from by simpa using hec))
      have HI := Lib.hid (And.intro heo hfo)
      have hBn := bthen hB hk
      have hz15 := hk.size
      have hB0 := Lib.hid hB
      have hk14 := Lib.hid (hk.mono (Nat.le_refl _))
      clear hb15 hec heo hfo hB hBw hk
      have hB := hBn
      clear hBn
      have hBw := Below.refl w15.heap.size w15
      go_wp2_with (at_builtin; refine app_litB (base := w14.heap.size) (v := .slice (some ea) 1 1) (n := 1) (xs := pcel eC) (g := w15.heap.size + 1) (m := 1) (c := 1) (C := [.int .i64 6, .int .i64 2, .int .i64 2, .int .i64 0, .int .i64 1]) elP (by rfl) (by rfl) ?_ ?_ (by rfl) (by rfl) ?_ rfl (pcel_one [⟨6, 2, 2, 0, 1⟩]) (by decide) ?_; (exact owns_kp (S := fun _ => True) HO.out (Kp.of_below _ (bal hBw _)) trivial); (simp; omega); (simp))
      intro v' w16 hO hK hBe
      obtain ⟨ia, ic, rfl, hins, hfa⟩ := own_ins (L := eD) (show w16.ownsRow w14.heap.size 53 5 v' 2 (pcel eD) from hO)
      have ht16 := hK.typ (typ_fresh rfl) (by decide)
      have p0 : w16.cell? ⟨w15.heap.size, 0, none⟩ = some (.int .i64 2) := hK.cell (typ_fresh rfl) (by decide) (cell_new rfl rfl)
      have p1 : w16.cell? ⟨w15.heap.size, 1, none⟩ = some (.int .i64 3) := hK.cell (typ_fresh rfl) (by decide) (cell_new rfl rfl)
      have p2 : w16.cell? ⟨w15.heap.size, 2, none⟩ = some (.slice (some ea) 1 1) := hK.cell (typ_fresh rfl) (by decide) (cell_new rfl rfl)
      have p3 : w16.cell? ⟨w15.heap.size, 3, none⟩ = some (.slice (some eb) 3 3) := hK.cell (typ_fresh rfl) (by decide) (cell_new rfl rfl)
      have p2f : w16.frozen? ⟨w15.heap.size, 2, none⟩ = false := hK.frz (typ_fresh rfl) (by decide) (by simp [go_sem])
      have HE0 := Lib.hid (And.intro hins (And.intro (show ∀ p, ia = some p → p.block ≠ w15.heap.size from fun p e => typ_ne (hfa p e).2 ht16 (by decide)) (show IntsV w16 (some eb) 3 eO ∧ ∀ p, some eb = some p → p.block ≠ w15.heap.size from ⟨IntsV.kpK (HI.out.1.keep (bal hBw _)) (HI.out.2.keep (bal hBw _)) hK (by decide), fun p e => by have := typ_lt (HI.out.2 p e).2; omega⟩)))
      have hB16 : Below w.heap.size w w16 := hB0.out.trans ((show Below w14.heap.size w14 w16 from hk14.out.trans (by
        exact (bal (Below.refl w15.heap.size w15) _ |>.mono hz15).trans hBe)).mono hB0.out.size)
      clear hO hK hBe hins hfa ht16 HO HI hB hBw
      have zp := cell_lt p0
      have hBw := Below.refl w16.heap.size w16
      go_upto_region 17 with (fail)
      refine wp_name fun w17 hW17 => ?_
      have hB : Below w.heap.size w w17 := by rw [hW17]; exact bset hB16 (Nat.le_trans hB0.out.size hz15) _
      have HE := Lib.hid (show InsV w17 ia ic eD ∧ IntsV w17 (some eb) 3 eO from by rw [hW17]; exact ⟨InsV.far HE0.out.1 (q := ⟨w15.heap.size, 2, none⟩) HE0.out.2.1 _, IntsV.far HE0.out.2.2.1 (q := ⟨w15.heap.size, 2, none⟩) HE0.out.2.2.2 _⟩)
      replace p0 : w17.cell? ⟨w15.heap.size, 0, none⟩ = some (.int .i64 2) := by rw [hW17]; exact cell_far p0 (by simp) _
      replace p1 : w17.cell? ⟨w15.heap.size, 1, none⟩ = some (.int .i64 3) := by rw [hW17]; exact cell_far p1 (by simp) _
      replace p3 : w17.cell? ⟨w15.heap.size, 3, none⟩ = some (.slice (some eb) 3 3) := by rw [hW17]; exact cell_far p3 (by simp) _
      replace p2 : w17.cell? ⟨w15.heap.size, 2, none⟩ = some (.slice ia 2 ic) := by rw [hW17]; exact cell_here p2 _
      replace zp := cell_lt p0
      clear hW17 hB16 HE0 hB0 hk14 p2f hBw hz15
      have hBw := Below.refl w17.heap.size w17
      have HC := Lib.hid (show ∀ V, Below w17.heap.size w17 V → V.cell? ⟨w15.heap.size, 0, none⟩ = some (.int .i64 2) ∧ V.cell? ⟨w15.heap.size, 1, none⟩ = some (.int .i64 3) ∧ V.cell? ⟨w15.heap.size, 2, none⟩ = some (.slice ia 2 ic) ∧ V.cell? ⟨w15.heap.size, 3, none⟩ = some (.slice (some eb) 3 3) from fun V q => ⟨bkeep q p0, bkeep q p1, bkeep q p2, bkeep q p3⟩)
      have HB17 := Lib.hid hB
      have EC := Lib.hid (fun a c V (q : Below w17.heap.size w17 V) (hp : PtsV V a 3 c (evF eP)) => (show Calls Tryd.prog 16 #[.agg #[.int .i64 2, .int .i64 3, .slice ia 2 ic, .slice (some eb) 3 3], .int .i64 2, .slice a 3 c] V (fun e w' => e = .returned (.tuple #[.bool false, .int .i64 0]) ∧ Below V.heap.size V w') from (evals_c 2 3 ia (some eb) ic 3 eD eO 2 a 3 c (evF eP) V (HE.out.1.keep q) (HE.out.2.keep q) hp (by decide) (by decide) e_pts).mono fun e w' h => h.isnt eD_ok e_not3))
      clear hB HE
      go_region_law (go_simp; go_wp2_with (first
        | (go_at_call 15; (with_reducible refine (points11_c w17.heap.size 0 6 6 3 eP _ rfl (by decide) ?_).mono ?_); (first | exact six_cells _ rfl | exact fun k hk => cell_drew (six_cells _ rfl k hk)); rintro e w18 ⟨⟨pa2, pc2, rfl, hpp2⟩, hb18⟩; (have hBd : Below w17.heap.size w17 w18 := bthen (by repeat (first | exact Below.refl _ _ | exact hBw | refine Below.drew ?_ | refine below_drewN ?_ _ | refine bset ?_ (by simp <;> omega) _ | refine bal ?_ _)) hb18; clear hBw; have hBw := hBd; clear hBd); obtain ⟨p0, p1, p2, p3⟩ := HC.out w18 hBw; have HPP := Lib.hid hpp2; have hyA := Below.refl w18.heap.size w18; have zpA := cell_lt p0; clear hpp2)
        | (go_at_call 16; (with_reducible refine (EC.out _ _ _ ?_ (HPP.out.keep ?_)).mono ?_); (repeat (first | exact Below.refl _ _ | exact hBw | refine Below.drew ?_ | refine below_drewN ?_ _ | refine bset ?_ (by simp <;> omega) _ | refine bal ?_ _)); (repeat (first | exact Below.refl _ _ | exact hyA | refine Below.drew ?_ | refine below_drewN ?_ _ | refine bset ?_ (by simp <;> omega) _ | refine bal ?_ _)); rintro e w19 ⟨rfl, hb19⟩; (have hBd : Below w17.heap.size w17 w19 := bthen (by repeat (first | exact Below.refl _ _ | exact hBw | refine Below.drew ?_ | refine below_drewN ?_ _ | refine bset ?_ (by simp <;> omega) _ | refine bal ?_ _)) hb19; clear hBw; have hBw := hBd; clear hBd); obtain ⟨p0, p1, p2, p3⟩ := HC.out w19 hBw; have zpB := cell_lt p0)
        | fail))
      all_goals
        have hB := bthen HB17.out hBw
        clear HC EC HPP hyA zpA zpB hBw p0 p1 p2 p3
        have hBw := Below.refl w19.heap.size w19
        go_wp2_with fail
        (with_reducible refine (points11_c (w19.heap.size) 0 4 4 2 [0, 1, 1, 1] _ rfl (by decide) ?_).mono ?_)
        · intro k hk
          rcases lt4 hk with rfl|rfl|rfl|rfl <;> first | exact cell_new rfl rfl | exact cell_new (by simp) rfl
        rintro e w20 ⟨⟨pa20, pc20, rfl, hpp⟩, hb20⟩
        have hk : Below w19.heap.size w19 w20 := bthen (by repeat (first | exact Below.refl _ _ | exact hBw | refine Below.drew ?_ | refine below_drewN ?_ _ | refine bset ?_ (by simp <;> omega) _ | refine bal ?_ _)) hb20
        have HP := Lib.hid hpp
        have hBn := bthen hB hk
        clear hb20 hpp hB hBw
        have hB := hBn
        clear hBn
        have hBw := Below.refl w20.heap.size w20
        clear hk
        have PC := Lib.hid (fun V (q : Below w20.heap.size w20 V) => program_no 0 pa20 2 pc20 (evF [0, 1, 1, 1]) V (HP.out.keep q) (by decide) (fun h => by exact absurd h.1 (by decide)))
        go_wp2_with fail
        (with_reducible refine (PC.out _ ?_).mono ?_); (repeat (first | exact Below.refl _ _ | exact hBw | refine Below.drew ?_ | refine below_drewN ?_ _ | refine bset ?_ (by simp <;> omega) _ | refine bal ?_ _))
        rintro e w21 ⟨rfl, hb21⟩
        have hBn := bthen hB (bthen (show Below w20.heap.size w20 _ by repeat (first | exact Below.refl _ _ | exact hBw | refine Below.drew ?_ | refine below_drewN ?_ _ | refine bset ?_ (by simp <;> omega) _ | refine bal ?_ _)) hb21)
        clear PC hb21 hB hBw
        have hB := hBn
        clear hBn
        have hBw := Below.refl w21.heap.size w21
        clear HP
        go_wp2_with fail
        (with_reducible refine (points11_c (w21.heap.size + 1) 0 2 2 1 [0, 1] _ rfl (by decide) ?_).mono ?_)
        · intro k hk
          rcases lt2 hk with rfl|rfl <;> first | exact cell_new rfl rfl | exact cell_new (by simp) rfl
        rintro e w22 ⟨⟨pa22, pc22, rfl, hpp⟩, hb22⟩
        have hk : Below w21.heap.size w21 w22 := bthen (by repeat (first | exact Below.refl _ _ | exact hBw | refine Below.drew ?_ | refine below_drewN ?_ _ | refine bset ?_ (by simp <;> omega) _ | refine bal ?_ _)) hb22
        have HP := Lib.hid hpp
        have hBn := bthen hB hk
        clear hb22 hpp hB hBw
        have hB := hBn
        clear hBn
        have hBw := Below.refl w22.heap.size w22
        clear hk
        have PC := Lib.hid (fun V (q : Below w22.heap.size w22 V) => program_no 9 pa22 1 pc22 (evF [0, 1]) V (HP.out.keep q) (by decide) (fun h => by exact absurd h.2.1 (by decide)))
        go_wp2_with fail
        (with_reducible refine (PC.out _ ?_).mono ?_); (repeat (first | exact Below.refl _ _ | exact hBw | refine Below.drew ?_ | refine below_drewN ?_ _ | refine bset ?_ (by simp <;> omega) _ | refine bal ?_ _))
        rintro e w23 ⟨rfl, hb23⟩
        have hBn := bthen hB (bthen (show Below w22.heap.size w22 _ by repeat (first | exact Below.refl _ _ | exact hBw | refine Below.drew ?_ | refine below_drewN ?_ _ | refine bset ?_ (by simp <;> omega) _ | refine bal ?_ _)) hb23)
        clear PC hb23 hB hBw
        have hB := hBn
        clear hBn
        have hBw := Below.refl w23.heap.size w23
        clear HP
        have PC := Lib.hid (fun V (q : Below w23.heap.size w23 V) => program_no 2 none 0 0 (evF []) V (.inl rfl) (by decide) (fun h => by exact absurd h.2.2.1 (by decide)))
        go_wp2_with fail
        (with_reducible refine (PC.out _ ?_).mono ?_); (repeat (first | exact Below.refl _ _ | exact hBw | refine Below.drew ?_ | refine below_drewN ?_ _ | refine bset ?_ (by simp <;> omega) _ | refine bal ?_ _))
        rintro e w24 ⟨rfl, hb24⟩
        have hBn := bthen hB (bthen (show Below w23.heap.size w23 _ by repeat (first | exact Below.refl _ _ | exact hBw | refine Below.drew ?_ | refine below_drewN ?_ _ | refine bset ?_ (by simp <;> omega) _ | refine bal ?_ _)) hb24)
        clear PC hb24 hB hBw
        have hB := hBn
        clear hBn
        have hBw := Below.refl w24.heap.size w24
        go_wp2_with fail
        (with_reducible refine (points11_c (w24.heap.size + 1) 0 2 2 1 [0, 0] _ rfl (by decide) ?_).mono ?_)
        · intro k hk
          rcases lt2 hk with rfl|rfl <;> first | exact cell_new rfl rfl | exact cell_new (by simp) rfl
        rintro e w25 ⟨⟨pa25, pc25, rfl, hpp⟩, hb25⟩
        have hk : Below w24.heap.size w24 w25 := bthen (by repeat (first | exact Below.refl _ _ | exact hBw | refine Below.drew ?_ | refine below_drewN ?_ _ | refine bset ?_ (by simp <;> omega) _ | refine bal ?_ _)) hb25
        have HP := Lib.hid hpp
        have hBn := bthen hB hk
        clear hb25 hpp hB hBw
        have hB := hBn
        clear hBn
        have hBw := Below.refl w25.heap.size w25
        clear hk
        have PC := Lib.hid (fun V (q : Below w25.heap.size w25 V) => (show Calls Tryd.prog 18 #[.int .i64 1, .slice pa25 1 pc25] V (fun e w' => (∃ ca cc oa oc, e = .returned (.tuple #[.agg #[.int .i64 1, .int .i64 3, .slice ca 0 cc, .slice oa 1 oc], .int .i64 0]) ∧ InsV w' ca cc [] ∧ IntsV w' oa oc [0]) ∧ Below V.heap.size V w') from (program_c 1 pa25 1 pc25 (evF [0, 0]) V (HP.out.keep q) (by decide) (by decide) p00_ok (HT.out.keep (bthen hB q))).mono fun e w' h => by
          obtain ⟨⟨ca, cc, oa, oc, rfl, h1, h2, -, -⟩, hb⟩ := h
          exact ⟨⟨ca, cc, oa, oc, rfl, h1, h2⟩, hb⟩))
        go_wp2_with fail
        (with_reducible refine (PC.out _ ?_).mono ?_); (repeat (first | exact Below.refl _ _ | exact hBw | refine Below.drew ?_ | refine below_drewN ?_ _ | refine bset ?_ (by simp <;> omega) _ | refine bal ?_ _))
        rintro e w27 ⟨⟨ja, jc, ka, kc, rfl, hci, hoi⟩, hb27⟩
        have hBn := bthen hB (bthen (show Below w25.heap.size w25 _ by repeat (first | exact Below.refl _ _ | exact hBw | refine Below.drew ?_ | refine below_drewN ?_ _ | refine bset ?_ (by simp <;> omega) _ | refine bal ?_ _)) hb27)
        have HE0 := Lib.hid (And.intro hci hoi)
        clear PC hb27 hB hBw hci hoi HP
        have hB := hBn
        clear hBn
        have hBw := Below.refl w27.heap.size w27
        go_upto_region 22 with (fail)
        refine wp_name fun w26 hW26 => ?_
        have hk6 : Below w27.heap.size w27 w26 := by rw [hW26]; repeat (first | exact Below.refl _ _ | exact hBw | refine Below.drew ?_ | refine below_drewN ?_ _ | refine bset ?_ (by simp <;> omega) _ | refine bal ?_ _)
        have p0 : w26.cell? ⟨w27.heap.size, 0, none⟩ = some (.int .i64 1) := by rw [hW26]; simp [go_sem]
        have p1 : w26.cell? ⟨w27.heap.size, 1, none⟩ = some (.int .i64 3) := by rw [hW26]; simp [go_sem]
        have p2 : w26.cell? ⟨w27.heap.size, 2, none⟩ = some (.slice ja 0 jc) := by rw [hW26]; simp [go_sem]
        have p3 : w26.cell? ⟨w27.heap.size, 3, none⟩ = some (.slice ka 1 kc) := by rw [hW26]; simp [go_sem]
        have zp := cell_lt p0
        have HE := Lib.hid (And.intro (HE0.out.1.keep hk6) (HE0.out.2.keep hk6))
        have hBn := bthen hB hk6
        clear hW26 hB hBw HE0 hk6
        have hB := hBn
        clear hBn
        have hBw := Below.refl w26.heap.size w26
        have HC := Lib.hid (show ∀ V, Below w26.heap.size w26 V → V.cell? ⟨w27.heap.size, 0, none⟩ = some (.int .i64 1) ∧ V.cell? ⟨w27.heap.size, 1, none⟩ = some (.int .i64 3) ∧ V.cell? ⟨w27.heap.size, 2, none⟩ = some (.slice ja 0 jc) ∧ V.cell? ⟨w27.heap.size, 3, none⟩ = some (.slice ka 1 kc) from fun V q => ⟨bkeep q p0, bkeep q p1, bkeep q p2, bkeep q p3⟩)
        have HB26 := Lib.hid hB
        have EC := Lib.hid (fun a c V (q : Below w26.heap.size w26 V) (hp : PtsV V a 1 c (evF [0, 0])) => (show Calls Tryd.prog 16 #[.agg #[.int .i64 1, .int .i64 3, .slice ja 0 jc, .slice ka 1 kc], .int .i64 1, .slice a 1 c] V (fun e w' => e = .returned (.tuple #[.bool true, .int .i64 0]) ∧ Below V.heap.size V w') from (evals_c 1 3 ja ka jc kc [] [0] 1 a 1 c (evF [0, 0]) V (HE.out.1.keep q) (HE.out.2.keep q) hp (by decide) (by decide) p00_ok).mono fun e w' h => h.is p1_ok p1_is))
        clear hB HE
        go_region_law (go_simp; go_wp2_with (first
          | (go_at_call 15; (with_reducible refine (points11_c w26.heap.size 0 2 2 1 [0, 0] _ rfl (by decide) ?_).mono ?_); (first | exact two_cells _ rfl | exact fun k hk => cell_drew (two_cells _ rfl k hk)); rintro e w31 ⟨⟨pa2, pc2, rfl, hpp2⟩, hb31⟩; (have hBd : Below w26.heap.size w26 w31 := bthen (by repeat (first | exact Below.refl _ _ | exact hBw | refine Below.drew ?_ | refine below_drewN ?_ _ | refine bset ?_ (by simp <;> omega) _ | refine bal ?_ _)) hb31; clear hBw; have hBw := hBd; clear hBd); obtain ⟨p0, p1, p2, p3⟩ := HC.out w31 hBw; have HPP := Lib.hid hpp2; have hyA := Below.refl w31.heap.size w31; have zpA := cell_lt p0; clear hpp2)
          | (go_at_call 16; (with_reducible refine (EC.out _ _ _ ?_ (HPP.out.keep ?_)).mono ?_); (repeat (first | exact Below.refl _ _ | exact hBw | refine Below.drew ?_ | refine below_drewN ?_ _ | refine bset ?_ (by simp <;> omega) _ | refine bal ?_ _)); (repeat (first | exact Below.refl _ _ | exact hyA | refine Below.drew ?_ | refine below_drewN ?_ _ | refine bset ?_ (by simp <;> omega) _ | refine bal ?_ _)); rintro e w28 ⟨rfl, hb28⟩; (have hBd : Below w26.heap.size w26 w28 := bthen (by repeat (first | exact Below.refl _ _ | exact hBw | refine Below.drew ?_ | refine below_drewN ?_ _ | refine bset ?_ (by simp <;> omega) _ | refine bal ?_ _)) hb28; clear hBw; have hBw := hBd; clear hBd); obtain ⟨p0, p1, p2, p3⟩ := HC.out w28 hBw; have zpB := cell_lt p0)
          | fail))
        all_goals
          have hB := bthen HB26.out hBw
          clear HC EC HPP hyA zpA zpB hBw p0 p1 p2 p3
          have hBw := Below.refl w28.heap.size w28
          have EC := Lib.hid (fun a c V (hp : PtsV V a 1 c (evF [0, 0])) => (show Calls Tryd.prog 16 #[.agg #[.int .i64 0, .int .i64 0, .slice none 0 0, .slice none 0 0], .int .i64 1, .slice a 1 c] V (fun e w' => e = .returned (.tuple #[.bool false, .int .i64 80]) ∧ Below V.heap.size V w') from (evals_c 0 0 none none 0 0 [] [] 1 a 1 c (evF [0, 0]) V (.inl rfl) (.inl rfl) hp (by decide) (by decide) p00_ok).mono fun e w' h => h.bad z_not))
          go_wp2_with fail
          (with_reducible refine (points11_c (w28.heap.size) 0 2 2 1 [0, 0] _ rfl (by decide) ?_).mono ?_)
          · intro k hk
            rcases lt2 hk with rfl|rfl <;> first | exact cell_new rfl rfl | exact cell_new (by simp) rfl
          rintro e w29 ⟨⟨pa29, pc29, rfl, hpp⟩, hb29⟩
          have hk : Below w28.heap.size w28 w29 := bthen (by repeat (first | exact Below.refl _ _ | exact hBw | refine Below.drew ?_ | refine below_drewN ?_ _ | refine bset ?_ (by simp <;> omega) _ | refine bal ?_ _)) hb29
          have HP := Lib.hid hpp
          have hBn := bthen hB hk
          clear hb29 hpp hB hBw
          have hB := hBn
          clear hBn
          have hBw := Below.refl w29.heap.size w29
          clear hk
          go_wp2_with fail
          (with_reducible refine (EC.out _ _ _ (HP.out.keep ?_)).mono ?_); (repeat (first | exact Below.refl _ _ | exact hBw | refine Below.drew ?_ | refine below_drewN ?_ _ | refine bset ?_ (by simp <;> omega) _ | refine bal ?_ _))
          rintro e w30 ⟨rfl, hb30⟩
          have hBf := bthen hB (bthen (show Below w29.heap.size w29 _ by repeat (first | exact Below.refl _ _ | exact hBw | refine Below.drew ?_ | refine below_drewN ?_ _ | refine bset ?_ (by simp <;> omega) _ | refine bal ?_ _)) hb30)
          clear EC hb30
          go_wp2
          go_ret
          exact ⟨rfl, by repeat (first | exact Below.refl _ _ | exact hBf | refine Below.drew ?_ | refine below_drewN ?_ _ | refine bset ?_ (by simp <;> omega) _ | refine bal ?_ _)⟩
end Go.Proofs.YtdllbdfchloijaaDoor

