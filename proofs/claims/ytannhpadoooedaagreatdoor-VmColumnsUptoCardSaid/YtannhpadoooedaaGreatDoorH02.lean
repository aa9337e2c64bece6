/- Texts of this seat, laid together: VcP, RefM. Each opens with its own remark, which says what it proves, and under which conditions. -/
import Derived.Test.YtannhpadoooedaaGreatDoorH01
import Derived.Test.YtannhpadoooedaaGreatDoorG39
import Derived.Test.YtannhpadoooedaaGreatDoorG26
set_option linter.unusedVariables false
set_option linter.unusedSimpArgs false
/- vm and exact, in plain Lean: a run on blocks against the runs at each place. -/
namespace Go.Proofs.YtannhpadoooedaaGreatDoor
open Num
open Go.ChangeShapes Go.WideShapes Go.ChangeAt Go.RowKit
set_option linter.unusedVariables false
set_option linter.unusedSimpArgs false
theorem colG_start (g : Grid) (R m k : Nat) : colG (startG g R m) k = startN (colG g k) R := by
  unfold startG startN colG
  rw [List.map_append, List.map_replicate, List.length_map]
  congr 2
  by_cases h : k < m
  · simp [List.getD_eq_getElem?_getD, h]
  · simp [List.getD_eq_getElem?_getD, List.getElem?_replicate, h]
theorem colG_outs (outs : List Int) (h : Grid) (j k : Nat) : ((outsG outs h).getD j []).getD k 0 = (outsN outs (colG h k)).getD j 0 := by
  unfold outsG outsN
  rw [List.getD_eq_getElem?_getD (l := List.map _ _), List.getElem?_map, List.getD_eq_getElem?_getD (l := List.map (fun k_1 => (colG h k).getD k_1.toNat 0) outs), List.getElem?_map]
  cases outs[j]? with
  | none => simp
  | some o => simp only [Option.map_some, Option.getD_some]; rw [colG_get]
/-- the instruction at which a run on the column j fails -/
def FailsAt (code : List Ins) (g : Grid) (R j m : Nat) : Prop := m < code.length ∧ (∃ s, afterN code (startN (colG g j) R) m = some s) ∧ afterN code (startN (colG g j) R) (m + 1) = none
/-- the least instruction at which one of the first k columns fails; -1: none does -/
def LeastUp (code : List Ins) (g : Grid) (R k : Nat) (L : Int) : Prop :=
  (L = -1 ∧ ∀ j, j < k → ∀ m, ¬ FailsAt code g R j m) ∨ (∃ q : Nat, L = q ∧ (∃ j, j < k ∧ FailsAt code g R j q) ∧ ∀ j, j < k → ∀ m, FailsAt code g R j m → q ≤ m)
section
variable {code : List Ins} {g : Grid} {R k : Nat} {L : Int}
theorem FailsAt.uniq {j m n : Nat} (h : FailsAt code g R j m) (h' : FailsAt code g R j n) : m = n := afterN_uniq h.2.1 h.2.2 h'.2.1 h'.2.2
theorem FailsAt.no {j m : Nat} {s : List Int} (h : afterN code (startN (colG g j) R) code.length = some s) : ¬ FailsAt code g R j m := fun f => by
  rw [afterN_mono f.2.2 (show m + 1 ≤ code.length from f.1)] at h; cases h
theorem LeastUp.zero (code : List Ins) (g : Grid) (R : Nat) : LeastUp code g R 0 (-1) := .inl ⟨rfl, fun j hj => by omega⟩
theorem LeastUp.lo (h : LeastUp code g R k L) : -1 ≤ L := by
  rcases h with ⟨h, _⟩ | ⟨q, h, _⟩ <;> omega
theorem LeastUp.ok (h : LeastUp code g R k L) (hk : ∀ m, ¬ FailsAt code g R k m) : LeastUp code g R (k + 1) L := by
  rcases h with ⟨h1, h2⟩ | ⟨q, h1, ⟨j, hj, h2⟩, h3⟩
  · refine .inl ⟨h1, fun j hj m => ?_⟩
    by_cases e : j = k
    · subst e; exact hk m
    · exact h2 j (by omega) m
  · refine .inr ⟨q, h1, ⟨j, by omega, h2⟩, fun j hj m hm => ?_⟩
    by_cases e : j = k
    · subst e; exact absurd hm (hk m)
    · exact h3 j (by omega) m hm
theorem LeastUp.new {m : Nat} (h : LeastUp code g R k L) (hf : FailsAt code g R k m) (hL : L < 0 ∨ (m : Int) < L) : LeastUp code g R (k + 1) (m : Int) := by
  refine .inr ⟨m, rfl, ⟨k, by omega, hf⟩, fun j hj n hn => ?_⟩
  by_cases e : j = k
  · subst e; rw [hf.uniq hn]; exact Nat.le_refl _
  · rcases h with ⟨h1, h2⟩ | ⟨q, h1, h2, h3⟩
    · exact absurd hn (h2 j (by omega) n)
    · have := h3 j (by omega) n hn; omega
theorem LeastUp.old {m : Nat} (h : LeastUp code g R k L) (hf : FailsAt code g R k m) (hL : 0 ≤ L) (hL2 : L ≤ m) : LeastUp code g R (k + 1) L := by
  rcases h with ⟨h1, h2⟩ | ⟨q, h1, ⟨j, hj, h2⟩, h3⟩
  · omega
  · refine .inr ⟨q, h1, ⟨j, by omega, h2⟩, fun j hj n hn => ?_⟩
    by_cases e : j = k
    · subst e; rw [hn.uniq hf]; omega
    · exact h3 j (by omega) n hn
/-- where the run on blocks fails at n, so does the least -/
theorem LeastUp.end_fail {m n : Nat} {h : Grid} (hL : LeastUp code g R m L) (hg : Rect m g) (hgR : g.length ≤ R) (ha : ∀ n, n < code.length → (code.getD n default).a.toNat < R) (hn : n < code.length) (e : after code (startG g R m) n = some h) (e2 : after code (startG g R m) (n + 1) = none) : L = n := by
  have hr := startG_rect (regs := R) hg
  have hl := startG_len (n := m) hgR
  obtain ⟨j, hj, hjf⟩ := col_fail hr hl ha hn e e2
  have hc : ∀ j, j < m → afterN code (startN (colG g j) R) n = some (colG h j) := fun j hj => by
    rw [← colG_start g R m j]; exact col_after hr hl ha hj (by omega) e
  have hF : FailsAt code g R j n := ⟨hn, ⟨_, hc j hj⟩, by rw [← colG_start g R m j]; exact hjf⟩
  rcases hL with ⟨h1, h2⟩ | ⟨q, h1, ⟨i, hi, h2⟩, h3⟩
  · exact absurd hF (h2 j hj n)
  · have k1 := h3 j hj n hF
    have k2 : n ≤ q := by
      apply Nat.le_of_not_lt; intro hlt
      have := hc i hi
      rw [afterN_mono h2.2.2 (show q + 1 ≤ n by omega)] at this; cases this
    omega
theorem LeastUp.end_ok {m : Nat} {h : Grid} (hL : LeastUp code g R m L) (hg : Rect m g) (hgR : g.length ≤ R) (ha : ∀ n, n < code.length → (code.getD n default).a.toNat < R) (e : after code (startG g R m) code.length = some h) : L = -1 := by
  have hr := startG_rect (regs := R) hg
  have hl := startG_len (n := m) hgR
  rcases hL with ⟨h1, h2⟩ | ⟨q, h1, ⟨i, hi, h2⟩, h3⟩
  · exact h1
  · refine absurd h2 (FailsAt.no (s := colG h i) ?_)
    rw [← colG_start g R m i]; exact col_after hr hl ha hi (Nat.le_refl _) e
end
end Go.Proofs.YtannhpadoooedaaGreatDoor
/- The reference's numbers: Power. -/
namespace Go.Proofs.YtannhpadoooedaaGreatDoor
open Num
open Go.ChangeShapes Go.WideShapes Go.ChangeAt Go.RowKit
set_option linter.unusedVariables false
set_option linter.unusedSimpArgs false
theorem pow_limbs (q m : Nat) (hm : m < 16) : NumR.Limbs ((List.replicate (q + 1) 0).set q (2 ^ m)) ∧ NumR.val ((List.replicate (q + 1) 0).set q (2 ^ m)) = 2 ^ (16 * q + m) := by
  have h2 : 2 ^ m < 65536 := Nat.lt_of_lt_of_le (Nat.pow_lt_pow_right (by omega) hm) (by decide)
  have e : (List.replicate (q + 1) 0).set q (2 ^ m) = List.replicate q 0 ++ [2 ^ m] := by
    rw [List.replicate_succ', List.set_append_right _ _ (by simp)]
    simp
  rw [e]
  refine ⟨fun x hx => ?_, ?_⟩
  · simp only [List.mem_append, List.mem_replicate, List.mem_singleton] at hx
    rcases hx with ⟨_, rfl⟩ | rfl
    · exact NumR.BB_pos
    · exact h2
  · rw [NumR.val_append, NumR.val_zeros]
    simp only [NumR.val, List.length_replicate, Nat.mul_zero, Nat.add_zero, Nat.zero_add]
    rw [Nat.pow_add, Nat.pow_mul]
    rfl
set_option maxRecDepth 100000 in
set_option maxHeartbeats 1000000 in
theorem rpower_c (n : Nat) (w : World) (hn : n ≤ 1048576) :
    Calls Tryz.prog 160 #[.int .i64 (n : Int)] w fun e w' => (∃ v, e = .returned v ∧ IsRef w' v (2 ^ n)) ∧ Below w.heap.size w w' := by
  obtain ⟨q, hq⟩ : ∃ q, q = n / 16 := ⟨_, rfl⟩
  obtain ⟨m, hm⟩ : ∃ m, m = n % 16 := ⟨_, rfl⟩
  have hnn : n = 16 * q + m := by omega
  have e1 : (n : Int) / 16 = (q : Int) := by omega
  have e1' : (n : Int).tdiv 16 = (q : Int) := by rw [Int.tdiv_eq_ediv_of_nonneg (by omega)]; exact e1
  have e2 : (n : Int) % 16 = (m : Int) := by omega
  have e2' : (n : Int).tmod 16 = (m : Int) := by rw [Int.tmod_eq_emod_of_nonneg (by omega)]; exact e2
  have hm16 : m < 16 := by omega
  have hqk : q ≤ 65536 := by omega
  have HP := Lib.hid (pow_limbs q m hm16)
  have HN := Lib.hid (show (2 : Int) ^ n = sg false (NumR.val ((List.replicate (q + 1) 0).set q (2 ^ m))) by rw [(pow_limbs q m hm16).2, ← hnn]; simp [sg])
  have hmk := mk32 (q + 1) (by omega)
  have ec : ((q + 1 : Nat) : Int) = (q : Int) + 1 := by omega
  rw [ec] at hmk
  have h2 : 2 ^ m < 65536 := Nat.lt_of_lt_of_le (Nat.pow_lt_pow_right (by omega) hm16) (by decide)
  obtain ⟨y, hy⟩ : ∃ y, y = 2 ^ m := ⟨_, rfl⟩
  rw [← hy] at HP HN h2
  have e3 : (2 : Int) ^ m = (y : Int) := by rw [hy, Int.natCast_pow]; rfl
  have e4 : IntKind.u32.wrap (y : Int) = (y : Int) := w32 (by unfold BB; omega)
  clear hq hm hy ec hnn
  have hs : w.heap.size + 1 = (w.alloc (.cells #[.bool false, .slice none 0 0] 44)).heap.size := by rw [World.size_alloc]
  have hb : Blk ((w.alloc (.cells #[.bool false, .slice none 0 0] 44)).alloc (.cells (cel (List.replicate (q + 1) 0)).toArray 137)) (w.heap.size + 1) (List.replicate (q + 1) 0) := blk_at hs
  have c0 := hb.cell q (by simp)
  have f0 := hb.frozen q
  have hu : U32 ((w.alloc (.cells #[.bool false, .slice none 0 0] 44)).alloc (.cells ((cel (List.replicate (q + 1) 0)).set q (.int .u32 (y : Int))).toArray 137)) (some ⟨w.heap.size + 1, 0, none⟩) (q + 1) ((List.replicate (q + 1) 0).set q y) := by
    have h := (blk_at (l := (List.replicate (q + 1) 0).set q y) hs).u32 (limbs_of_r HP.out.1) (by unfold maxLen; simp; omega)
    rw [List.length_set, List.length_replicate, show cel ((List.replicate (q + 1) 0).set q y) = (cel (List.replicate (q + 1) 0)).set q (.int .u32 (y : Int)) by simp [cel, List.map_set]] at h
    exact h
  have nc := rnorm_c false _ _ _ _ hu HP.out.1
  rw [← HN.out] at nc
  rw [List.length_set, List.length_replicate] at nc
  clear hu
  clear hb hs
  go_enter Tryz.func160, Tryz.ntmps160
  go_wp2_with fail
  refine nc.mono ?_
  rintro e w1 ⟨⟨v, rfl, hi⟩, hb1⟩
  have hB := bthen (bal (bal (Below.refl w.heap.size w) _) _) hb1
  have x0 : w1.cell? ⟨w.heap.size, 0, none⟩ = some (.bool false) := bkeep hb1 (by first | assumption | exact cell_new (by with_reducible first | rfl | (simp; done) | (simp; omega)) rfl | (repeat (first | assumption | exact cell_new (by with_reducible first | rfl | (simp; done) | (simp; omega)) rfl | refine cell_alloc ?_ _ | refine cell_drew ?_ | refine cell_drewN ?_ _ | refine cell_far ?_ (by simp) _ | (refine cell_far ?_ (by simp <;> omega) _))) | simp [go_sem, *])
  have zx0 := cell_lt x0
  have x0f : w1.frozen? ⟨w.heap.size, 0, none⟩ = false := bkeepf (v := .bool false) hb1 (by first | assumption | exact cell_new (by with_reducible first | rfl | (simp; done) | (simp; omega)) rfl | (repeat (first | assumption | exact cell_new (by with_reducible first | rfl | (simp; done) | (simp; omega)) rfl | refine cell_alloc ?_ _ | refine cell_drew ?_ | refine cell_drewN ?_ _ | refine cell_far ?_ (by simp) _ | (refine cell_far ?_ (by simp <;> omega) _))) | simp [go_sem, *]) (by first | assumption | (simp <;> assumption) | simp [go_sem, *])
  have x1 : w1.cell? ⟨w.heap.size, 1, none⟩ = some (.slice none 0 0) := bkeep hb1 (by first | assumption | exact cell_new (by with_reducible first | rfl | (simp; done) | (simp; omega)) rfl | (repeat (first | assumption | exact cell_new (by with_reducible first | rfl | (simp; done) | (simp; omega)) rfl | refine cell_alloc ?_ _ | refine cell_drew ?_ | refine cell_drewN ?_ _ | refine cell_far ?_ (by simp) _ | (refine cell_far ?_ (by simp <;> omega) _))) | simp [go_sem, *])
  have x1f : w1.frozen? ⟨w.heap.size, 1, none⟩ = false := bkeepf (v := .slice none 0 0) hb1 (by first | assumption | exact cell_new (by with_reducible first | rfl | (simp; done) | (simp; omega)) rfl | (repeat (first | assumption | exact cell_new (by with_reducible first | rfl | (simp; done) | (simp; omega)) rfl | refine cell_alloc ?_ _ | refine cell_drew ?_ | refine cell_drewN ?_ _ | refine cell_far ?_ (by simp) _ | (refine cell_far ?_ (by simp <;> omega) _))) | simp [go_sem, *]) (by first | assumption | (simp <;> assumption) | simp [go_sem, *])
  have hB : Below w.heap.size w w1 := bthen (by repeat (first | exact Below.refl _ _ | exact hB | refine Below.drew ?_ | refine below_drewN ?_ _ | refine bset ?_ (by simp <;> omega) _ | refine bal ?_ _)) hb1
  have hz : w.heap.size ≤ w1.heap.size := hB.size
  have HI := Lib.hid (hi.put2 x0 x1)
  obtain ⟨n1, a1, c1, l1, rfl, -⟩ := hi
  unfold iv at *
  clear nc c0 f0
  go_wp2
  refine bodyPost_ret (v := .agg #[.bool n1, .slice a1 l1.length c1]) (by simp [results, Tryz.results160, go_sem, *]) rfl ⟨⟨_, rfl, HI.out _ _⟩, ?_⟩
  repeat (first | exact Below.refl _ _ | exact hB | refine Below.drew ?_ | refine below_drewN ?_ _ | refine bset ?_ (by simp <;> omega) _ | refine bal ?_ _)
end Go.Proofs.YtannhpadoooedaaGreatDoor
