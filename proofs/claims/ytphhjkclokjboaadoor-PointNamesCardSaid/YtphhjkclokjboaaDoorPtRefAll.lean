/- The reference's All: a list, built by append; the same list as the iterator tells. -/
import Derived.Test.YtphhjkclokjboaaDoorPtAll1
import Derived.Test.YtphhjkclokjboaaDoorPtV
namespace Go.Proofs.YtphhjkclokjboaaDoor
open Pt
open Go.ChangeShapes Go.WideShapes Go.ChangeAt Go.RowKit
set_option linter.unusedVariables false
set_option linter.unusedSimpArgs false
namespace Pt
def refB (h a b : Int) : Bool := decide (¬ (a ≠ h ∧ b ≠ h) ∧ nrm a b = (a, b) ∧ b ≠ 0)
def refS (h a b : Int) : List (Int × Int) := if refB h a b then [(a, b), (-a, b)] else []
def refA (h b : Int) : Nat → List (Int × Int)
  | 0 => []
  | a + 1 => refA h b a ++ refS h ((a : Int) + 1) b
def refL (h : Nat) : Nat → List (Int × Int)
  | 0 => []
  | b + 1 => refL h b ++ refA (h : Int) (b : Int) h
def refR : Nat → List (Int × Int)
  | 0 => []
  | h + 1 => refR h ++ refL (h + 1) (h + 2)
theorem refS_no {h a b : Int} (hh : ¬ (¬ (a ≠ h ∧ b ≠ h) ∧ nrm a b = (a, b) ∧ b ≠ 0)) : refS h a b = [] := by
  unfold refS refB; rw [decide_eq_false hh]; rfl
theorem refS_yes {h a b : Int} (hh : ¬ (a ≠ h ∧ b ≠ h) ∧ nrm a b = (a, b) ∧ b ≠ 0) : refS h a b = [(a, b), (-a, b)] := by
  unfold refS refB; rw [decide_eq_true hh]; rfl
theorem refS_len (h a b : Int) : (refS h a b).length ≤ 2 := by unfold refS; split <;> simp
theorem refA_len (h b : Int) : ∀ a : Nat, (refA h b a).length ≤ 2 * a
  | 0 => by simp [refA]
  | a + 1 => by have := refA_len h b a; have := refS_len h ((a : Int) + 1) b; simp only [refA, List.length_append]; omega
theorem refL_len (h : Nat) (hh : h ≤ 16) : ∀ b : Nat, (refL h b).length ≤ 32 * b
  | 0 => by simp [refL]
  | b + 1 => by have := refL_len h hh b; have := refA_len (h : Int) (b : Int) h; simp only [refL, List.length_append]; omega
theorem refR_len : ∀ h : Nat, h ≤ 16 → (refR h).length ≤ 600 * h
  | 0, _ => by simp [refR]
  | h + 1, hh => by have := refR_len h (by omega); have := refL_len (h + 1) hh (h + 2); simp only [refR, List.length_append]; omega
theorem ref_ring : ∀ h : Nat, h ≤ 16 → refL h (h + 1) = ringL h (h + 1) := by
  have : ((List.range 17).all fun h => refL h (h + 1) == ringL h (h + 1)) = true := by decide +kernel
  intro h hh
  rw [List.all_eq_true] at this
  simpa using this h (by simp; omega)
theorem refR_rings : ∀ h : Nat, h ≤ 16 → refR h = rings h
  | 0, _ => rfl
  | h + 1, hh => by rw [refR, rings, refR_rings h (by omega)]; congr 1; exact ref_ring (h + 1) hh
/-- how far it has come -/
def rA (h b a : Nat) : List (Int × Int) := [(0, 1), (1, 0)] ++ refR h ++ refL (h + 1) b ++ refA ((h + 1 : Nat) : Int) (b : Int) a
def rB (h b : Nat) : List (Int × Int) := [(0, 1), (1, 0)] ++ refR h ++ refL (h + 1) b
def rH (h : Nat) : List (Int × Int) := [(0, 1), (1, 0)] ++ refR h
theorem rA_0 (h b : Nat) : rA h b 0 = rB h b := by simp [rA, rB, refA]
theorem rB_0 (h : Nat) : rB h 0 = rH h := by simp [rH, rB, refL]
theorem rA_h (h b : Nat) : rA h b (h + 1) = rB h (b + 1) := by simp [rA, rB, refL]
theorem rB_h (h : Nat) : rB h (h + 2) = rH (h + 1) := by simp [rH, rB, refR]
theorem rA_s (h b a : Nat) : rA h b (a + 1) = rA h b a ++ refS ((h + 1 : Nat) : Int) ((a : Int) + 1) b := by simp [rA, refA]
theorem rA_len (h b a : Nat) (hh : h + 1 ≤ 16) (hb : b ≤ 17) (ha : a ≤ 16) : (rA h b a).length ≤ 20000 := by
  have := refR_len h (by omega); have := refL_len (h + 1) hh b; have := refA_len ((h + 1 : Nat) : Int) (b : Int) a
  simp only [rA, List.length_append, List.length_cons, List.length_nil]; omega
end Pt
/-- the cells of points -/
def pcells (l : List (Int × Int)) : List Value := l.flatMap fun x => [.int .i64 x.1, .int .i64 x.2]
theorem pcells_app (l m : List (Int × Int)) : pcells (l ++ m) = pcells l ++ pcells m := by simp [pcells]
theorem pcells_one (l : List (Int × Int)) : ∀ u ∈ pcells l, u.oneCell' = true := by
  intro u hu
  simp only [pcells, List.mem_flatMap] at hu
  obtain ⟨x, _, hu⟩ := hu
  simp at hu
  rcases hu with rfl | rfl <;> rfl
theorem infoPt : (Tryd.prog.info? 32).map (fun i => (i.zero, i.size, i.bytes)) = some (some (.agg #[.int .i64 0, .int .i64 0]), 2, 16) := by kernel_rfl
theorem refNorm_pv (a b : Int) (w : World) (h : PIn a b) :
    Calls Tryd.prog 19 #[pv a b] w fun e w' => e = .returned (pv (nrm a b).1 (nrm a b).2) ∧ Below w.heap.size w w' := refNorm_c a b w h
/-- a list of points of the call's own -/
def OwnPts (w0 wr : World) (v : Value) (L : List (Int × Int)) : Prop := wr.ownsRow w0.heap.size 32 2 v L.length (pcells L) ∧ Below w0.heap.size w0 wr
theorem OwnPts.below {w0 wr w' : World} {v : Value} {L : List (Int × Int)} (h : OwnPts w0 wr v L) (hb : Below wr.heap.size wr w') : OwnPts w0 w' v L := by
  exact ⟨own_below (w0 := w0) h.1 hb, bthen h.2 hb⟩

set_option maxRecDepth 100000 in
set_option maxHeartbeats 2000000 in
theorem refAll_yes (k : Nat) (w : World) (h1 : 1 ≤ k) (h2 : k ≤ 16) :
    Calls Tryd.prog 10 #[.int .i64 (k : Int)] w fun e w' => ∃ v, e = .returned v ∧ OwnPts w w' v (allL k) := by
  obtain ⟨i0, hi, hz0, hz1, hz2⟩ := info_parts infoPt
  have HE := Lib.hid (show rH k = allL k by rw [allL_yes (by omega), rH, refR_rings k h2, Int.toNat_natCast]; rfl)
  go_enter Tryd.func10, Tryd.ntmps10
  go_wp2
  go_loopw [3, 4] (fun o x wr => ∃ h : Nat, h ≤ k ∧ x = .int .i64 ((h : Int) + 1) ∧ OwnPts w wr o (rH h)) (fun _ x _ => 17 - (intOf x).toNat)
  case atStart => exact ⟨0, by omega, rfl, World.ownsRow_lit w _ 2 (Nat.le_refl _) (by simp [maxLen]) rfl, bal (Below.refl _ _) _⟩
  case round =>
    obtain ⟨h, hh, rfl, hO⟩ := hrel
    by_cases hlt : h < k
    · have hle1 : (h : Int) + 1 ≤ (k : Int) := by omega
      go_wp2
      go_loopw [3, 5] (fun o x wr => ∃ b : Nat, b ≤ h + 2 ∧ x = .int .i64 (b : Int) ∧ OwnPts w wr o (rB h b)) (fun _ x _ => h + 2 - (intOf x).toNat)
      case atStart => exact ⟨0, by omega, rfl, by rw [rB_0]; exact hO⟩
      case round =>
        rename World => wi
        obtain ⟨b, hb, rfl, hO⟩ := hrel
        by_cases hlb : b < h + 2
        · have hle2 : (b : Int) ≤ (h : Int) + 1 := by omega
          go_wp2
          go_loopw [3, 6] (fun o x wr => ∃ a : Nat, a ≤ h + 1 ∧ x = .int .i64 ((a : Int) + 1) ∧ OwnPts w wr o (rA h b a)) (fun _ x _ => h + 2 - (intOf x).toNat)
          case atStart => exact ⟨0, by omega, rfl, by rw [rA_0]; exact hO⟩
          case round =>
            rename World => wj
            obtain ⟨a, ha, rfl, hO⟩ := hrel
            by_cases hla : a < h + 1
            · have HN := Lib.hid (rA_s h b a)
              have hin : PIn ((a : Int) + 1) b := ⟨by omega, by omega, by omega, by omega⟩
              have skip : ∀ w', refS ((h + 1 : Nat) : Int) ((a : Int) + 1) b = [] → Below wj.heap.size wj w' → (∃ a', a' ≤ h + 1 ∧ Value.int .i64 ((a : Int) + 1 + 1) = .int .i64 ((a' : Nat) + 1) ∧ OwnPts w w' u3 (rA h b a')) := fun w' hr hb' =>
                ⟨a + 1, by omega, by go_num, by rw [HN.out, hr, List.append_nil]; exact hO.below hb'⟩
              have SK := Lib.hid skip
              clear skip
              by_cases c1 : a ≠ h ∧ b ≠ h + 1
              · have R1 := Lib.hid (refS_no (h := ((h + 1 : Nat) : Int)) (a := (a : Int) + 1) (b := b) (fun k => k.1 (by omega)))
                have t1 : (((a : Int) + 1) != ((h : Int) + 1)) = true := by simp; omega
                have t2 : (((b : Int)) != ((h : Int) + 1)) = true := by simp; omega
                clear c1
                go_wp2
                exact ⟨SK.out _ R1.out (Below.refl _ _), by simp [intOf]; omega⟩
              · by_cases e4 : nrm ((a : Int) + 1) b = ((a : Int) + 1, (b : Int))
                · have hn : ∀ w, (binOp .neq 32 (.agg #[.int .i64 (nrm ((a : Int) + 1) b).1, .int .i64 (nrm ((a : Int) + 1) b).2]) (.agg #[.int .i64 ((a : Int) + 1), .int .i64 (b : Int)])).run Tryd.prog w = .ok (.bool false) w := fun w => by rw [neq_pvg, e4]; simp
                  by_cases hb0 : b = 0
                  · have R1 := Lib.hid (refS_no (h := ((h + 1 : Nat) : Int)) (a := (a : Int) + 1) (b := b) (fun k => k.2.2 (by omega)))
                    have tb : ((b : Int) == 0) = true := by simp; omega
                    clear e4 hb0
                    by_cases c2 : a = h
                    · have t1 : (((a : Int) + 1) != ((h : Int) + 1)) = false := by simp; omega
                      clear c1 c2
                      go_wp2_with (go_at_call 19; refine (refNorm_pv _ _ _ hin).mono ?_; rintro e w3 ⟨rfl, hb3⟩)
                      exact ⟨SK.out _ R1.out hb3, by simp [intOf]; omega⟩
                    · have t1 : (((a : Int) + 1) != ((h : Int) + 1)) = true := by simp; omega
                      have t2 : (((b : Int)) != ((h : Int) + 1)) = false := by simp; omega
                      clear c1 c2
                      go_wp2_with (go_at_call 19; refine (refNorm_pv _ _ _ hin).mono ?_; rintro e w3 ⟨rfl, hb3⟩)
                      exact ⟨SK.out _ R1.out hb3, by simp [intOf]; omega⟩
                  · have R1 := Lib.hid (refS_yes (h := ((h + 1 : Nat) : Int)) (a := (a : Int) + 1) (b := b) ⟨by omega, e4, by omega⟩)
                    have tb : ((b : Int) == 0) = false := by simp; omega
                    have hlen := Lib.hid (rA_len h b a (by omega) (by omega) (by omega))
                    clear e4 hb0
                    by_cases c2 : a = h
                    · have t1 : (((a : Int) + 1) != ((h : Int) + 1)) = false := by simp; omega
                      clear c1 c2
                      go_wp2_with (first | (go_at_call 19; refine (refNorm_pv _ _ _ hin).mono ?_; rintro e w3 ⟨rfl, hb3⟩; have hO3 := hO.below hb3) | (at_builtin; refine wpList_append_own _ rfl _ _ 23 rfl w.heap.size 32 i0 _ 2 16 Tryd.underlying23 hi hz0 hz1 hz2 rfl (by decide) _ _ _ rfl (hO3.1.alloc _) ⟨w3.heap.size, 0, none⟩ 2 2 (pcells [((a : Int) + 1, (b : Int)), (-((a : Int) + 1), (b : Int))]) rfl rfl ?_ ?_ ?_ ?_ ?_ ?_))
                      · exact cells_new _ (pcells [((a : Int) + 1, (b : Int)), (-((a : Int) + 1), (b : Int))]) _
                      · exact pcells_one _
                      · have := hlen.out; unfold maxLen; omega
                      · have := hlen.out; omega
                      · have := hO3.2.size; simp; omega
                      · intro v' w1 hown' hgrow _
                        have hO4 : OwnPts w w1 v' (rA h b (a + 1)) := by
                          rw [HN.out, R1.out]
                          refine ⟨?_, below_append (wr := w3) (bal hO3.2 _) (hO3.1.alloc _) hgrow⟩
                          rw [pcells_app, List.length_append]; exact hown'
                        go_wp2
                        exact ⟨⟨a + 1, by omega, by go_num, hO4⟩, by simp [intOf]; omega⟩
                    · have t1 : (((a : Int) + 1) != ((h : Int) + 1)) = true := by simp; omega
                      have t2 : (((b : Int)) != ((h : Int) + 1)) = false := by simp; omega
                      clear c1 c2
                      go_wp2_with (first | (go_at_call 19; refine (refNorm_pv _ _ _ hin).mono ?_; rintro e w3 ⟨rfl, hb3⟩; have hO3 := hO.below hb3) | (at_builtin; refine wpList_append_own _ rfl _ _ 23 rfl w.heap.size 32 i0 _ 2 16 Tryd.underlying23 hi hz0 hz1 hz2 rfl (by decide) _ _ _ rfl (hO3.1.alloc _) ⟨w3.heap.size, 0, none⟩ 2 2 (pcells [((a : Int) + 1, (b : Int)), (-((a : Int) + 1), (b : Int))]) rfl rfl ?_ ?_ ?_ ?_ ?_ ?_))
                      · exact cells_new _ (pcells [((a : Int) + 1, (b : Int)), (-((a : Int) + 1), (b : Int))]) _
                      · exact pcells_one _
                      · have := hlen.out; unfold maxLen; omega
                      · have := hlen.out; omega
                      · have := hO3.2.size; simp; omega
                      · intro v' w1 hown' hgrow _
                        have hO4 : OwnPts w w1 v' (rA h b (a + 1)) := by
                          rw [HN.out, R1.out]
                          refine ⟨?_, below_append (wr := w3) (bal hO3.2 _) (hO3.1.alloc _) hgrow⟩
                          rw [pcells_app, List.length_append]; exact hown'
                        go_wp2
                        exact ⟨⟨a + 1, by omega, by go_num, hO4⟩, by simp [intOf]; omega⟩
                · have R1 := Lib.hid (refS_no (h := ((h + 1 : Nat) : Int)) (a := (a : Int) + 1) (b := b) (fun k => e4 k.2.1))
                  have hn : ∀ w, (binOp .neq 32 (.agg #[.int .i64 (nrm ((a : Int) + 1) b).1, .int .i64 (nrm ((a : Int) + 1) b).2]) (.agg #[.int .i64 ((a : Int) + 1), .int .i64 (b : Int)])).run Tryd.prog w = .ok (.bool true) w := fun w => by
                    rw [neq_pvg]; congr 2
                    rw [Bool.not_eq_true', Bool.eq_false_iff]; simp only [ne_eq, Bool.and_eq_true, beq_iff_eq]; exact fun k => e4 (Prod.ext k.1 k.2)
                  clear e4
                  by_cases c2 : a = h
                  · have t1 : (((a : Int) + 1) != ((h : Int) + 1)) = false := by simp; omega
                    clear c1 c2
                    go_wp2_with (go_at_call 19; refine (refNorm_pv _ _ _ hin).mono ?_; rintro e w3 ⟨rfl, hb3⟩)
                    exact ⟨SK.out _ R1.out hb3, by simp [intOf]; omega⟩
                  · have t1 : (((a : Int) + 1) != ((h : Int) + 1)) = true := by simp; omega
                    have t2 : (((b : Int)) != ((h : Int) + 1)) = false := by simp; omega
                    clear c1 c2
                    go_wp2_with (go_at_call 19; refine (refNorm_pv _ _ _ hin).mono ?_; rintro e w3 ⟨rfl, hb3⟩)
                    exact ⟨SK.out _ R1.out hb3, by simp [intOf]; omega⟩
            · obtain rfl : a = h + 1 := by omega
              go_wp2
              exact ⟨⟨b + 1, by omega, by go_num, by rw [← rA_h]; exact hO⟩, by simp [intOf]; omega⟩
        · obtain rfl : b = h + 2 := by omega
          go_wp2
          exact ⟨⟨h + 1, by omega, by go_num, by rw [← rB_h]; exact hO⟩, by simp [intOf]; omega⟩
    · obtain rfl : h = k := by omega
      go_wp2
      go_ret
      exact ⟨_, rfl, by rw [← HE.out]; exact hO⟩

theorem refAll_no (m : Int) (w : World) (h : ¬ (1 ≤ m ∧ m ≤ 16)) :
    Calls Tryd.prog 10 #[.int .i64 m] w fun e w' => ∃ v, e = .returned v ∧ OwnPts w w' v (allL m) := by
  have HL := Lib.hid (allL_no h)
  by_cases hr1 : m < 1
  · clear h
    go_enter Tryd.func10, Tryd.ntmps10
    go_wp2
    go_ret
    exact ⟨_, rfl, by rw [HL.out]; exact ⟨World.ownsRow_nil _ _ _ _, Below.refl _ _⟩⟩
  · have hr2 : 16 < m := by omega
    clear h
    go_enter Tryd.func10, Tryd.ntmps10
    go_wp2
    go_ret
    exact ⟨_, rfl, by rw [HL.out]; exact ⟨World.ownsRow_nil _ _ _ _, Below.refl _ _⟩⟩
theorem refAll_c (m : Int) (w : World) :
    Calls Tryd.prog 10 #[.int .i64 m] w fun e w' => ∃ v, e = .returned v ∧ OwnPts w w' v (allL m) := by
  by_cases h : 1 ≤ m ∧ m ≤ 16
  · obtain ⟨k, rfl⟩ := Int.eq_ofNat_of_zero_le (by omega : 0 ≤ m)
    exact refAll_yes k w (by omega) (by omega)
  · exact refAll_no m w h
theorem ptAll_c (m : Int) (w : World) :
    Calls Tryd.prog 9 #[.int .i64 m] w fun e w' => e = .returned (.func (.func 17) #[] #[.pointer (some ⟨w.heap.size, 0, none⟩)]) ∧ Below w.heap.size w w' ∧ w'.cell? ⟨w.heap.size, 0, none⟩ = some (.int .i64 m) := by
  go_enter Tryd.func9, Tryd.ntmps9
  go_wp2
  go_ret
  exact ⟨rfl, bal (Below.refl _ _) _, cell_new rfl rfl⟩

theorem pcells_get (L : List (Int × Int)) : ∀ k, k < L.length → (pcells L)[k * 2]? = some (.int .i64 (L.getD k (0, 0)).1) ∧ (pcells L)[k * 2 + 1]? = some (.int .i64 (L.getD k (0, 0)).2) := by
  induction L with
  | nil => intro k hk; simp at hk
  | cons x L ih =>
    intro k hk
    cases k with
    | zero => exact ⟨rfl, rfl⟩
    | succ k =>
      have := ih k (by simpa using hk)
      have e : pcells (x :: L) = [.int .i64 x.1, .int .i64 x.2] ++ pcells L := rfl
      rw [e, show (k + 1) * 2 = k * 2 + 2 from by omega]
      simpa [List.getElem?_append] using this
theorem OwnPts.view {w0 wr : World} {v : Value} {L : List (Int × Int)} (h : OwnPts w0 wr v L) : ∃ a cap, v = .slice a L.length cap ∧ PtsV wr a L.length cap (fun i => L.getD i (0, 0)) := by
  obtain ⟨h1, h2⟩ := h.1
  rcases h2 with ⟨rfl, h0⟩ | ⟨g, cap, cur, rfl, hg, hh, hc, hm, hs, ht⟩
  · exact ⟨none, 0, by rw [h0], .inl h0⟩
  · refine ⟨some ⟨g, 0, none⟩, cap, rfl, .inr ⟨g, 0, rfl, hc, fun k hk => ?_⟩⟩
    obtain ⟨c0, c1⟩ := pcells_get L k hk
    rw [← ht] at c0 c1
    constructor
    · have e := c0
      rw [List.getElem?_take_of_lt (by omega)] at e
      simpa [World.cell?, hh] using e
    · have e := c1
      rw [List.getElem?_take_of_lt (by omega)] at e
      simpa [World.cell?, hh] using e
theorem refAll_v (m : Int) (w : World) :
    Calls Tryd.prog 10 #[.int .i64 m] w fun e w' => ∃ a cap, e = .returned (.slice a (allL m).length cap) ∧ PtsV w' a (allL m).length cap (fun i => (allL m).getD i (0, 0)) ∧ Below w.heap.size w w' :=
  (refAll_c m w).mono fun e w' ⟨v, he, hO⟩ => let ⟨a, cap, hv, hp⟩ := hO.view; ⟨a, cap, by rw [he, hv], hp, hO.2⟩
end Go.Proofs.YtphhjkclokjboaaDoor
