/- Texts of this seat, laid together: VwA, VwE. Each opens with its own remark, which says what it proves, and under which conditions. -/
import Derived.Test.YtannhpadoooedaaDoorG12
import Derived.Test.YtannhpadoooedaaDoorG14
import Derived.Test.YtannhpadoooedaaDoorG23
import Derived.Test.YtannhpadoooedaaDoorG26
/- vm's laws: the numbers that come in, as the program's blocks and as the reference's. -/
namespace Go.Proofs.YtannhpadoooedaaDoor
open Num
open Go.ChangeShapes Go.WideShapes Go.ChangeAt Go.RowKit
set_option linter.unusedVariables false
set_option linter.unusedSimpArgs false
/-- fits in an int64 -/
def I64 (x : Int) : Prop := -9223372036854775808 ≤ x ∧ x ≤ 9223372036854775807
/-- a list of ints that came in -/
def RowI (w : World) (v : Value) (l : List Int) : Prop := ∃ a c, v = .slice a l.length c ∧ ∀ k, k < l.length → ∃ b off, a = some ⟨b, off, none⟩ ∧ w.cell? ⟨b, off + k, none⟩ = some (.int .i64 (l.getD k 0)) ∧ I64 (l.getD k 0)
theorem RowI.keep {w w' : World} {v : Value} {l : List Int} (h : RowI w v l) (hb : Below w.heap.size w w') : RowI w' v l := by
  obtain ⟨a, c, h1, h2⟩ := h
  exact ⟨a, c, h1, fun k hk => by obtain ⟨b, off, h3, h4, h5⟩ := h2 k hk; exact ⟨b, off, h3, bkeep hb h4, h5⟩⟩
/-- a list of such lists -/
def GridI (w : World) (v : Value) (g : Grid) : Prop := ∃ a c, v = .slice a g.length c ∧ ∀ k, k < g.length → ∃ b off u, a = some ⟨b, off, none⟩ ∧ w.cell? ⟨b, off + k, none⟩ = some u ∧ RowI w u (g.getD k [])
theorem GridI.keep {w w' : World} {v : Value} {g : Grid} (h : GridI w v g) (hb : Below w.heap.size w w') : GridI w' v g := by
  obtain ⟨a, c, h1, h2⟩ := h
  exact ⟨a, c, h1, fun k hk => by obtain ⟨b, off, u, h3, h4, h5⟩ := h2 k hk; exact ⟨b, off, u, h3, bkeep hb h4, h5.keep hb⟩⟩
/-- how many numbers there are in a grid -/
def sumG (g : Grid) : Nat := (g.map List.length).sum
theorem sumG_le {g : Grid} {k : Nat} (hk : k < g.length) : (g.getD k []).length ≤ sumG g := by
  induction g generalizing k with
  | nil => simp at hk
  | cons a g ih =>
    cases k with
    | zero => simp [sumG]
    | succ k => have := ih (k := k) (by simpa using hk); simp [sumG] at this ⊢; omega
theorem take_getD {α : Type} {l : List α} {k : Nat} (d : α) (h : k < l.length) : l.take (k + 1) = l.take k ++ [l.getD k d] := by
  rw [List.take_succ_eq_append_getElem h]; simp [h]
theorem mkCap (n : Nat) (hn : n ≤ 1099511627776) (w : World) : (Instr.makeSlice 31 (.int .i64 0) (.int .i64 (n : Int))).run Tryd.prog w = .ok (.slice (some ⟨w.heap.size, 0, none⟩) 0 n) (w.alloc (.cells (zcel n) 34)) := by
  obtain ⟨i0, hi, hz0, hz1, hz2⟩ := info_parts infoInt
  have h := run_make (P := Tryd.prog) w _ _ i0 _ Tryd.underlying31 hi hz0 .i64 .i64 0 n (by omega) (by omega) (by rw [hz2]; omega) (by omega)
  rw [hz1] at h
  exact h
theorem ownF_cap (w : World) (n : Nat) (hn : n ≤ maxLen) (f : Nat → Int) : OwnF IsInt 34 w (w.alloc (.cells (zcel n) 34)) (.slice (some ⟨w.heap.size, 0, none⟩) 0 n) 0 f :=
  ⟨[], ⟨⟨rfl, .inr ⟨w.heap.size, n, zcel n, rfl, Nat.le_refl _, (MapKept.heap_alloc w _).1, Nat.zero_le _, hn, by simp [zcel, size_madeCells], by simp⟩⟩, bal (Below.refl _ _) _⟩, fun k hk => absurd hk (by omega)⟩
theorem OwnF.congr' {R : World → Value → Int → Prop} {E : TypeId} {w0 wr : World} {v : Value} {n : Nat} {f f' : Nat → Int} (h : OwnF R E w0 wr v n f) (he : ∀ k, k < n → f k = f' k) : OwnF R E w0 wr v n f' := by
  obtain ⟨xs, h1, h2⟩ := h
  exact ⟨xs, h1, fun k hk => by rw [← he k hk]; exact h2 k hk⟩
theorem OwnF.rebase' {R : World → Value → Int → Prop} {E : TypeId} {w0 w1 wr : World} {v : Value} {n : Nat} {f : Nat → Int} (hb : Below w0.heap.size w0 w1) (h : OwnF R E w1 wr v n f) : OwnF R E w0 wr v n f := by
  obtain ⟨xs, ⟨⟨hl, h1⟩, hB⟩, h2⟩ := h
  refine ⟨xs, ⟨⟨hl, ?_⟩, bthen hb hB⟩, h2⟩
  rcases h1 with h1 | ⟨g, cap, cur, hv, hg, hr⟩
  · exact .inl h1
  · exact .inr ⟨g, cap, cur, hv, Nat.le_trans hb.size hg, hr⟩
theorem snoc_fun (l : List Int) (j : Nat) (hj : j < l.length) : ∀ k, k < j + 1 → (fun i => if i = j then l.getD j 0 else l.getD i 0) k = l.getD k 0 := by
  intro k hk; dsimp only; split
  · subst_vars; rfl
  · rfl
set_option maxRecDepth 100000 in
set_option maxHeartbeats 8000000 in
theorem lists_c (v : Value) (g : Grid) (w : World) (hg : GridI w v g) (h1 : (g.length + 1) * 24 ≤ 140737488355328) (h2 : sumG g ≤ 300) :
    Calls Tryd.prog 9 #[v] w fun e w' => ∃ v', e = .returned v' ∧ OwnL 31 (RowO IsInt 34 w.heap.size) w w' v' g := by
  obtain ⟨ga, gc, rfl, hv⟩ := hg
  have HV := Lib.hid hv
  have HS := Lib.hid (fun k (hk : k < g.length) => Nat.le_trans (sumG_le hk) h2)
  clear hv h2
  have hB := Below.refl w.heap.size w
  go_enter Tryd.func9, Tryd.ntmps9
  go_wp2
  go_loopw [3, 11] (fun v x wr => ∃ k : Nat, k ≤ g.length ∧ x = .int .i64 k ∧ Hid (OwnL 31 (RowO IsInt 34 w.heap.size) w wr v (g.take k))) (fun _ x _ => g.length - (intOf x).toNat)
  case atStart => exact ⟨0, Nat.zero_le _, rfl, Lib.hid (OwnL.nil _ _ hB)⟩
  case round =>
    obtain ⟨k, hk, rfl, hO⟩ := hrel
    by_cases hlt : k < g.length
    · have hBr := hO.out.bel
      have hltI : (k : Int) < (g.length : Int) := by omega
      obtain ⟨gb, go, u, rfl, hu, hrow⟩ := HV.out k hlt
      obtain ⟨ra, rc, rfl, hr⟩ := hrow
      have hl3 := HS.out k hlt
      have HT := Lib.hid (take_getD [] hlt)
      have hlen : (g.take k).length = k := by rw [List.length_take]; omega
      obtain ⟨va, vc, hvv⟩ := hO.out.ex
      rw [hlen] at hvv
      subst hvv
      have HLEN := Lib.hid hlen
      have hu2 := bkeep hBr hu
      obtain ⟨l, hl⟩ : ∃ l, g.getD k [] = l := ⟨_, rfl⟩
      rw [hl] at hr hu2 hl3 HT
      have HR := Lib.hid hr
      have HG := Lib.hid hl
      clear hu hr hl hlen
      have hmk : ∀ w, (Instr.makeSlice 31 (.int .i64 0) (.int .i64 ((l.length : Int) + 1))).run Tryd.prog w = .ok (.slice (some ⟨w.heap.size, 0, none⟩) 0 (l.length + 1)) (w.alloc (.cells (zcel (l.length + 1)) 34)) := mkCap (l.length + 1) (by omega)
      obtain ⟨wq, hwq⟩ : ∃ wq, wr = wq := ⟨_, rfl⟩
      rw [hwq] at hO hBr hu2 ⊢
      clear hwq
      go_wp2
      refine wp_name fun w3 hW3 => ?_
      have hO3 : Hid (OwnF IsInt 34 wq w3 (.slice (some ⟨wq.heap.size, 0, none⟩) 0 (l.length + 1)) 0 (fun i => l.getD i 0)) := Lib.hid (by rw [hW3]; exact ownF_cap wq _ (by unfold maxLen; omega) _)
      clear hW3 hmk
      go_loopw [6, 21] (fun v x wr => ∃ j : Nat, j ≤ l.length ∧ x = .int .i64 j ∧ Hid (OwnF IsInt 34 wq wr v j (fun i => l.getD i 0))) (fun _ x _ => l.length - (intOf x).toNat)
      case atStart => exact ⟨0, Nat.zero_le _, rfl, hO3⟩
      case round =>
        obtain ⟨j, hj, rfl, hF⟩ := hrel
        by_cases hlt2 : j < l.length
        · have hltJ : (j : Int) < (l.length : Int) := by omega
          obtain ⟨rb, ro, rfl, hc, hI⟩ := HR.out j hlt2
          have hc2 := bkeep (bthen hBr hF.out.bel) hc
          have oc := fun W => of_c (l.getD j 0) W hI.1 hI.2
          have HSN := Lib.hid (snoc_fun l j hlt2)
          obtain ⟨z, hz⟩ : ∃ z, l.getD j 0 = z := ⟨_, rfl⟩
          rw [hz] at hc2 oc HSN
          obtain ⟨fa, fc, hfv⟩ : ∃ a c, _ = Value.slice a j c := by obtain ⟨a, c, h, _⟩ := hF.out.view; exact ⟨a, c, h⟩
          subst hfv
          clear hc hI hz
          go_wp2_with fail
          refine (oc _).mono ?_
          rintro e w5 ⟨⟨v5, rfl, hi5⟩, hb5⟩
          have HF5 := Lib.hid (hF.out.below lims_int hb5)
          have HI5 := Lib.hid hi5
          obtain ⟨n5, a5, c5, l5, rfl, -⟩ := hi5
          unfold iv at *
          clear oc
          go_wp2_with (at_builtin; refine app_num elInt (by decide) lims_int (by rfl) (by rfl) HF5.out HI5.out (by rfl) (by rfl) (by omega) ?_)
          intro v' w8 hF8 _ _
          have HF8 := Lib.hid (hF8.congr' HSN.out)
          clear hF8
          go_wp2
          exact ⟨⟨j + 1, by omega, by go_num, HF8⟩, by simp [intOf]; omega⟩
        · obtain rfl : j = l.length := by omega
          have HRO := Lib.hid (hF.out.rowO.rebase hBr.size)
          have HOW := Lib.hid (hO.out.below (prs_rowO lims_int _ _) hF.out.bel)
          obtain ⟨fa, fc, hfv⟩ : ∃ a c, _ = Value.slice a l.length c := by obtain ⟨a, c, h, _⟩ := hF.out.view; exact ⟨a, c, h⟩
          subst hfv
          go_wp2_with (at_builtin; refine appL elRow (prs_rowO lims_int _ _) (by decide) (by rfl) (by rfl) (HOW.out.below (prs_rowO lims_int _ _) (bal (Below.refl _ _) _)) (HRO.out.keep lims_int (bal (Below.refl _ _) _)) (by rfl) (by rfl) (cell_new rfl rfl) (by rw [HLEN.out]; omega) (by rw [HLEN.out]; unfold maxLen; omega) ?_)
          intro v' w8 hO8 hk8
          have HO8 := Lib.hid hO8
          clear hO8 hk8
          go_wp2
          exact ⟨⟨k + 1, by omega, by go_num, by rw [HT.out]; exact HO8⟩, by simp [intOf]; omega⟩
    · obtain rfl : k = g.length := by omega
      rw [List.take_length] at hO
      go_wp2
      go_ret
      exact ⟨_, rfl, hO.out⟩
end Go.Proofs.YtannhpadoooedaaDoor
/- vm's laws: long; the document's example. -/
namespace Go.Proofs.YtannhpadoooedaaDoor
open Num
open Go.ChangeShapes Go.WideShapes Go.ChangeAt Go.RowKit
set_option linter.unusedVariables false
set_option linter.unusedSimpArgs false
/-- more than the laws go through -/
def longB (c : Nat) (r : Int) (n : Nat) : Bool := decide ((80 < c ∧ c ≤ 16384) ∨ (40 < r ∧ r ≤ 128) ∨ 300 < n)
theorem sum_take {g : Grid} {k : Nat} (hk : k < g.length) : sumG (g.take (k + 1)) = sumG (g.take k) + (g.getD k []).length := by
  rw [take_getD [] hk]; simp [sumG]
theorem sum_take_le (g : Grid) (k : Nat) : sumG (g.take k) ≤ sumG g := by
  have : sumG g = sumG (g.take k) + sumG (g.drop k) := by unfold sumG; rw [← List.sum_append, ← List.map_append, List.take_append_drop]
  omega
theorem bret' {a b : Bool} (h : a = b) : Ending.returned (.bool a) = Ending.returned (.bool b) := by rw [h]
set_option maxRecDepth 100000 in
set_option maxHeartbeats 4000000 in
theorem long_c (ins regs : Int) (ca oa : Option Addr) (cc oc cl ol : Nat) (v : Value) (g : Grid) (w : World) (hg : GridI w v g) (h1 : sumG g ≤ 1048576) (h2 : g.length ≤ 1048576) (hcl : cl ≤ 1048576) :
    Calls Tryd.prog 8 #[.agg #[.int .i64 ins, .int .i64 regs, .slice ca cl cc, .slice oa ol oc], v] w fun e w' => e = .returned (.bool (longB cl regs (sumG g))) ∧ Below w.heap.size w w' := by
  obtain ⟨ga, gc, rfl, hv⟩ := hg
  have HV := Lib.hid hv
  clear hv
  have hB := Below.refl w.heap.size w
  go_enter Tryd.func8, Tryd.ntmps8
  go_wp2
  refine wp_name fun w0 hW0 => ?_
  have p1 : w0.cell? ⟨w.heap.size, 1, none⟩ = some (.int .i64 regs) := by rw [hW0]; exact (by first | assumption | exact cell_new (by with_reducible first | rfl | (simp; done) | (simp; omega)) rfl | (repeat (first | assumption | exact cell_new (by with_reducible first | rfl | (simp; done) | (simp; omega)) rfl | refine cell_alloc ?_ _ | refine cell_drew ?_ | refine cell_drewN ?_ _ | refine cell_far ?_ (by simp) _ | (refine cell_far ?_ (by simp <;> omega) _))) | simp [go_sem, *])
  have zp1 := cell_lt p1
  have p2 : w0.cell? ⟨w.heap.size, 2, none⟩ = some (.slice ca cl cc) := by rw [hW0]; exact (by first | assumption | exact cell_new (by with_reducible first | rfl | (simp; done) | (simp; omega)) rfl | (repeat (first | assumption | exact cell_new (by with_reducible first | rfl | (simp; done) | (simp; omega)) rfl | refine cell_alloc ?_ _ | refine cell_drew ?_ | refine cell_drewN ?_ _ | refine cell_far ?_ (by simp) _ | (refine cell_far ?_ (by simp <;> omega) _))) | simp [go_sem, *])
  have hB : Below w.heap.size w w0 := by rw [hW0]; repeat (first | exact Below.refl _ _ | exact hB | refine Below.drew ?_ | refine below_drewN ?_ _ | refine bset ?_ (by simp <;> omega) _ | refine bal ?_ _)
  have hz : w.heap.size ≤ w0.heap.size := hB.size
  clear hW0
  go_loop [5, 10] (fun n x => ∃ k m : Nat, k ≤ g.length ∧ x = .int .i64 k ∧ n = .int .i64 m ∧ m ≤ 1048576 ∧ Hid (m = sumG (g.take k))) (fun _ x => g.length - (intOf x).toNat)
  case atStart => exact ⟨0, 0, Nat.zero_le _, rfl, rfl, by omega, Lib.hid rfl⟩
  case round =>
    obtain ⟨k, m, hk, rfl, rfl, hm, HM⟩ := hrel
    by_cases hlt : k < g.length
    · have hltI : (k : Int) < (g.length : Int) := by omega
      obtain ⟨gb, go, u, rfl, hu, hrow⟩ := HV.out k hlt
      obtain ⟨ra, rc, rfl, hr⟩ := hrow
      have hu2 := bkeep hB hu
      obtain ⟨l, hl⟩ : ∃ l, (g.getD k []).length = l := ⟨_, rfl⟩
      have hs := sum_take hlt
      have hs2 := sum_take_le g (k + 1)
      rw [hl] at hs hu2
      have hml : m + l ≤ 1048576 := by have := HM.out; omega
      have HS := Lib.hid (show m + l = sumG (g.take (k + 1)) by have := HM.out; omega)
      clear hu hr hl hs hs2
      go_wp2
      go_round
      case rel => exact ⟨k + 1, m + l, by omega, by go_num, by go_num, hml, HS⟩
      case measure => simp [intOf]; omega
    · obtain rfl : k = g.length := by omega
      rw [List.take_length] at HM
      have HS := Lib.hid (show longB cl regs (sumG g) = longB cl regs m by rw [HM.out])
      clear HM
      go_wp2
      all_goals go_ret
      all_goals exact ⟨by rw [HS.out]; exact bret' (by rw [Bool.eq_iff_iff]; simp [longB] <;> omega), hB⟩
/-- the document's program -/
def exCode : List Ins := [⟨4, 2, 0, 1, 0⟩, ⟨6, 2, 2, 0, 2⟩]
def exOuts : List Int := [2, 0]
set_option maxRecDepth 100000 in
set_option maxHeartbeats 4000000 in
theorem example_c (w : World) : Calls Tryd.prog 13 #[] w fun e w' => ∃ a b, e = .returned (.agg #[.int .i64 2, .int .i64 3, .slice (some a) 2 2, .slice (some b) 2 2]) ∧ InsV w' (some a) 2 exCode ∧ IntsV w' (some b) 2 exOuts ∧ Below w.heap.size w w' := by
  have hB := Below.refl w.heap.size w
  go_enter Tryd.func13, Tryd.ntmps13
  go_wp2
  refine bodyPost_ret (v := .agg #[.int .i64 2, .int .i64 3, .slice (some ⟨w.heap.size + 1, 0, none⟩) 2 2, .slice (some ⟨w.heap.size + 1 + 1, 0, none⟩) 2 2]) (by simp [results, Tryd.results13, go_sem]) rfl ⟨_, _, rfl, .inr ⟨w.heap.size + 1, 0, rfl, by decide, fun k hk => ?_⟩, .inr ⟨w.heap.size + 1 + 1, 0, rfl, by decide, fun k hk => ?_⟩, by repeat (first | exact Below.refl _ _ | exact hB | refine Below.drew ?_ | refine below_drewN ?_ _ | refine bset ?_ (by simp <;> omega) _ | refine bal ?_ _)⟩
  · have hk2 : k < 2 := hk
    rcases (show k = 0 ∨ k = 1 by omega) with rfl | rfl
    · constructor <;> simp [go_sem, exCode]
    · constructor <;> simp [go_sem, exCode]
  · have hk2 : k < 2 := hk
    rcases (show k = 0 ∨ k = 1 by omega) with rfl | rfl <;> simp [go_sem, exOuts]
end Go.Proofs.YtannhpadoooedaaDoor
