/- ExactNames: programs without instructions, grids without columns. -/
import Derived.Test.YtannhpadoooedaaDoorH05
import Derived.Test.YtannhpadoooedaaDoorH08
set_option linter.unusedVariables false
set_option linter.unusedSimpArgs false
namespace Go.Proofs.YtannhpadoooedaaDoor
open Num
open Go.ChangeShapes Go.WideShapes Go.ChangeAt Go.RowKit
set_option linter.unusedVariables false
set_option linter.unusedSimpArgs false
attribute [local go_sem ↓] Go.wp_at_zero Go.wp_at_succ
theorem grid1 {w : World} {b : Nat} {u : Value} {r : List Int} (hc : w.cell? ⟨b, 0, none⟩ = some u) (ht : typOf w b = some 31) (hu : PRow 0 w u r) : GridV w (.slice (some ⟨b, 0, none⟩) 1 1) [r] :=
  ⟨_, 1, rfl, Nat.le_refl _, by unfold maxLen; omega, .inr ⟨b, 0, rfl, Nat.zero_le _, ht, fun k hk => by
    have : k < 1 := hk
    obtain rfl : k = 0 := by omega
    exact ⟨u, hc, hu⟩⟩⟩
theorem naOk : ProgOk 1 1 [] [0] :=
  ⟨by decide, by decide, by decide, by decide, by decide, by decide, fun k hk => by
    have : k < 1 := hk
    obtain rfl : k = 0 := by omega
    exact ⟨by decide, by decide⟩, fun k hk => by simp at hk⟩
theorem fit1 {r : List Int} (h : r.length ≤ 4096) : FitsG 1 [r] :=
  ⟨rfl, fun k hk => by
    have : k < 1 := hk
    obtain rfl : k = 0 := by omega
    rfl, h⟩
/-- Judge, of a program without instructions -/
theorem judge1 {r : List Int} {w w' : World} {e : Ending} (h : JudgePost 1 1 [] [0] [r] w e w') : e = .returned (.tuple #[.int .i64 0, .int .i64 (if r.length ≤ 4096 then 0 else 5)]) ∧ Below w.heap.size w w' := by
  obtain ⟨h, hB⟩ := h
  refine ⟨?_, hB⟩
  rcases h with ⟨h1, _⟩ | ⟨_, h2, rfl⟩ | ⟨_, _, q, s, h3, _⟩ | ⟨_, h2, s, h3, rfl⟩
  · exact absurd naOk h1
  · rw [if_neg (fun h => h2 (fit1 h))]
  · simp at h3
  · rw [if_pos (show r.length ≤ 4096 from h2.m)]
/-- Rows, of a program without instructions, over a grid without columns -/
theorem rows1 {w w' : World} {e : Ending} (h : ExRowsPost 1 1 [] [0] [[]] w e w') : ∃ b o c a c', e = .returned (.tuple #[.slice (some ⟨b, o, none⟩) 1 c, .int .i64 0, .int .i64 0]) ∧ w'.cell? ⟨b, o, none⟩ = some (.slice a 0 c') ∧ Below w.heap.size w w' := by
  obtain ⟨h, hB⟩ := h
  rcases h with ⟨h1, _⟩ | ⟨_, h2, _⟩ | ⟨_, _, q, s, h3, _⟩ | ⟨_, _, s, v, h3, rfl, h4⟩
  · exact absurd naOk h1
  · exact absurd (fit1 (by simp)) h2
  · simp at h3
  · cases h3
    have h5 : OwnL 31 (RowO IsInt 34 w.heap.size) w w' v [[]] := h4
    obtain ⟨a, c, rfl, -, hv⟩ := h5.isL.view
    obtain ⟨b, o, u, rfl, hc, hu⟩ := hv 0 (by simp)
    obtain ⟨a', c', rfl⟩ := hu.ex
    exact ⟨b, o, c, a', c', rfl, hc, hB⟩
set_option maxRecDepth 100000 in
set_option maxHeartbeats 2000000 in
theorem made0_c (w : World) : Calls Tryd.prog 32 #[.slice none 0 0, .slice none 0 0] w fun e w' => e = .returned (.tuple #[.slice none 0 0, .int .i64 0]) ∧ Below w.heap.size w w' := by
  have hB := Below.refl w.heap.size w
  go_enter Tryd.func32, Tryd.ntmps32
  go_wp2
  go_loopw [6, 13] (fun l x wr => l = .slice none 0 0 ∧ x = .int .i64 0 ∧ Below w.heap.size w wr) (fun _ x _ => 1)
  case atStart => exact ⟨rfl, rfl, hB⟩
  case round =>
    obtain ⟨rfl, rfl, hBr⟩ := hrel
    go_wp2
    go_ret2
    exact ⟨rfl, hBr⟩
theorem long1 {w : World} {b m : Nat} (hm : m ≤ 1099511627776) (h : w.heap[b]? = some (Obj.cells (zcel (m + 1)) 34 (0, 0))) : PRow 0 w (.slice (some ⟨b, 2, none⟩) m m) (List.replicate m 0) := by
  refine ⟨some ⟨b, 2, none⟩, m, by rw [List.length_replicate], by rw [List.length_replicate]; exact Nat.le_refl _, by unfold maxLen; omega, .inr ⟨b, 2, rfl, Nat.zero_le _, by unfold typOf; rw [h], fun k hk => ?_⟩⟩
  rw [List.length_replicate] at hk
  obtain ⟨h1, h2⟩ := zcel_at (n := m + 1) (k := k + 1) (by omega)
  refine ⟨false, none, 0, 0, by rw [show 2 + k * 2 = (k + 1) * 2 by omega]; simp [World.cell?, h, h1], by rw [show 2 + k * 2 + 1 = (k + 1) * 2 + 1 by omega]; simp [World.cell?, h, h2], ?_⟩
  dsimp only
  rw [show (List.replicate m (0 : Int)).getD k 0 = 0 by simp [hk]]
  exact isInt_zero _
set_option maxRecDepth 100000 in
set_option maxHeartbeats 8000000 in
theorem exactNames_h (w : World) : Calls Tryd.prog 6 #[] w fun e w' => e = .returned (.bool true) ∧ Below w.heap.size w w' := by
  have hB := Below.refl w.heap.size w
  go_enter Tryd.func6, Tryd.ntmps6
  go_wp2_with fail
  refine (live_c _).mono ?_
  rintro e w1 ⟨rfl, hb1⟩
  have hB1 : Below w.heap.size w w1 := bthen (by repeat (first | exact Below.refl _ _ | exact hB | refine Below.drew ?_ | refine below_drewN ?_ _ | refine bset ?_ (by simp <;> omega) _ | refine bal ?_ _)) hb1
  go_wp2_with fail
  refine wp_nameC fun w2 hW2 => ?_
  have hw1 := Below.refl w1.heap.size w1
  have hb12 : Below w1.heap.size w1 w2 := by rw [hW2]; repeat (first | exact Below.refl _ _ | exact hw1 | refine Below.drew ?_ | refine below_drewN ?_ _ | refine bset ?_ (by simp <;> omega) _ | refine bal ?_ _)
  have ho2 : w2.cell? ⟨w1.heap.size, 0, none⟩ = some (.int .i64 0) := by rw [hW2]; simp [go_sem]
  have p0 : w2.cell? ⟨w1.heap.size + 1, 0, none⟩ = some (.int .i64 1) := by rw [hW2]; simp [go_sem]
  have p1 : w2.cell? ⟨w1.heap.size + 1, 1, none⟩ = some (.int .i64 1) := by rw [hW2]; simp [go_sem]
  have p2 : w2.cell? ⟨w1.heap.size + 1, 2, none⟩ = some (.slice none 0 0) := by rw [hW2]; simp [go_sem]
  have p3 : w2.cell? ⟨w1.heap.size + 1, 3, none⟩ = some (.slice (some ⟨w1.heap.size, 0, none⟩) 1 1) := by rw [hW2]; simp [go_sem]
  have g0 : w2.cell? ⟨w1.heap.size + 1 + 1, 0, none⟩ = some (.slice none 0 0) := by rw [hW2]; simp [go_sem]
  have gt : typOf w2 (w1.heap.size + 1 + 1) = some 31 := by rw [hW2]; exact typ_fresh (by simp)
  have HO := Lib.hid (show ∀ W, Below w2.heap.size w2 W → IntsV W (some ⟨w1.heap.size, 0, none⟩) 1 [0] from fun W h => .inr ⟨w1.heap.size, 0, rfl, by decide, fun k hk => by
    have hk2 : k < 1 := hk
    obtain rfl : k = 0 := by omega
    exact bkeep h ho2⟩)
  have HP := Lib.hid (show ∀ W, Below w2.heap.size w2 W → W.cell? ⟨w1.heap.size + 1, 0, none⟩ = some (.int .i64 1) ∧ W.cell? ⟨w1.heap.size + 1, 1, none⟩ = some (.int .i64 1) ∧ W.cell? ⟨w1.heap.size + 1, 2, none⟩ = some (.slice none 0 0) ∧ W.cell? ⟨w1.heap.size + 1, 3, none⟩ = some (.slice (some ⟨w1.heap.size, 0, none⟩) 1 1) from fun W h => ⟨bkeep h p0, bkeep h p1, bkeep h p2, bkeep h p3⟩)
  have rx : Calls Tryd.prog 31 #[.agg #[.int .i64 1, .int .i64 1, .slice none 0 0, .slice (some ⟨w1.heap.size, 0, none⟩) 1 1], .slice (some ⟨w1.heap.size + 1 + 1, 0, none⟩) 1 1] w2 (ExRowsPost 1 1 [] [0] [[]] w2) :=
    exRows_c 1 1 none (some ⟨w1.heap.size, 0, none⟩) 0 1 [] [0] _ [[]] 64 w2 (.inl rfl) (HO.out w2 (Below.refl _ _)) (grid1 g0 gt (IsRow.nil _ _ _ _)) (by simp) (fun i j => by
      have : (([[]] : Grid).getD i []).getD j 0 = 0 := by cases i <;> simp
      rw [this]; exact bd_zero) (by omega)
  have zp0 := cell_lt p0
  clear hW2 ho2 p0 p1 p2 p3 g0 gt
  refine rx.mono ?_
  rintro e w3 hr
  obtain ⟨rb, ro, rc, ra, rcc, rfl, hrc, hb3⟩ := rows1 hr
  clear rx hr
  have hw3 := Below.refl w3.heap.size w3
  go_wp2_with fail
  refine (made0_c _).mono ?_
  rintro e w4 ⟨rfl, hb4⟩
  have hb34 : Below w3.heap.size w3 w4 := bthen (by repeat (first | exact Below.refl _ _ | exact hw3 | refine Below.drew ?_ | refine below_drewN ?_ _ | refine bset ?_ (by simp <;> omega) _ | refine bal ?_ _)) hb4
  have hb24 := bthen hb3 hb34
  have hmk : ∀ w, (Instr.makeSlice 31 (.int .i64 4097) (.int .i64 4097)).run Tryd.prog w = .ok (.slice (some ⟨w.heap.size, 0, none⟩) 4097 4097) (w.alloc (.cells (zcel 4097) 34)) := mkInts 4097 (by omega)
  obtain ⟨Z, hZ⟩ : ∃ Z, zcel 4097 = Z := ⟨_, rfl⟩
  rw [hZ] at hmk
  have HZ := Lib.hid hZ
  clear hZ
  obtain ⟨p0, p1, p2, p3⟩ := HP.out w4 hb24
  have zpp := cell_lt p0
  have hw4 := Below.refl w4.heap.size w4
  go_wp2_with fail
  refine wp_nameC fun w5 hW5 => ?_
  have hb45 : Below w4.heap.size w4 w5 := by rw [hW5]; repeat (first | exact Below.refl _ _ | exact hw4 | refine Below.drew ?_ | refine below_drewN ?_ _ | refine bset ?_ (by simp <;> omega) _ | refine bal ?_ _)
  have hh5 : Hid (w5.heap[w4.heap.size]? = some (Obj.cells (zcel (4096 + 1)) 34 (0, 0))) := Lib.hid (by
    rw [hW5, show zcel (4096 + 1) = Z from HZ.out]
    exact ((bal (Below.refl _ _) _ : Below (w4.alloc (.cells Z 34)).heap.size _ _).block _ (by simp)).trans (heap_fresh rfl))
  have g5 : w5.cell? ⟨w4.heap.size + 1, 0, none⟩ = some (.slice (some ⟨w4.heap.size, 0, none⟩) 4097 4097) := by rw [hW5]; exact cell_new (by simp) rfl
  have gt5 : typOf w5 (w4.heap.size + 1) = some 31 := by rw [hW5]; exact typ_fresh (by simp)
  have hb25 := bthen hb24 hb45
  have HJ := Lib.hid (show ∀ (W : World) (b : Nat) (v : Value) (r : List Int) (n : Nat), Below w5.heap.size w5 W → W.cell? ⟨b, 0, none⟩ = some v → typOf W b = some 31 → PRow 0 W v r → r.length = n → n ≤ 4097 → (∀ j, r.getD j 0 = 0) →
      Calls Tryd.prog 28 #[.agg #[.int .i64 1, .int .i64 1, .slice none 0 0, .slice (some ⟨w1.heap.size, 0, none⟩) 1 1], .slice (some ⟨b, 0, none⟩) 1 1] W (fun e w' => e = .returned (.tuple #[.int .i64 0, .int .i64 (if n ≤ 4096 then 0 else 5)]) ∧ Below W.heap.size W w') from fun W b v r n hb hc ht hr hn hl hz =>
    (exJudge_c 1 1 none (some ⟨w1.heap.size, 0, none⟩) 0 1 [] [0] _ [r] 64 W (.inl rfl) (HO.out W (bthen hb25 hb)) (grid1 hc ht hr) (by show r.length ≤ _; omega) (fun i j => by
      have : (([r] : Grid).getD i []).getD j 0 = 0 := by
        cases i with
        | zero => exact hz j
        | succ i => simp
      rw [this]; exact bd_zero) (by omega)).mono fun e w' h => by rw [← hn]; exact judge1 h)
  have hrep : ∀ n j, (List.replicate n (0 : Int)).getD j 0 = 0 := fun n j => by
    by_cases h : j < n
    · simp [h]
    · rw [List.getD_eq_getElem?_getD, List.getElem?_eq_none (by simp; omega)]; rfl
  have HRP := Lib.hid hrep
  have jx := HJ.out w5 _ _ (List.replicate (4096 + 1) 0) 4097 (Below.refl _ _) g5 gt5 (zero_row w5 (by omega) hh5.out) List.length_replicate (by omega) (HRP.out _)
  rw [if_neg (by omega)] at jx
  clear hW5 g5 gt5 hmk hrep p0 p1 p2 p3
  refine jx.mono ?_
  rintro e w6 ⟨rfl, hb6⟩
  clear jx
  have hb26 := bthen hb25 hb6
  obtain ⟨p0, p1, p2, p3⟩ := HP.out w6 hb26
  have zp6 := cell_lt p0
  have hw6 := Below.refl w6.heap.size w6
  have HS := Lib.hid (show ∀ W, Below w6.heap.size w6 W → W.cell? ⟨w1.heap.size + 1, 0, none⟩ = some (.int .i64 1) ∧ W.cell? ⟨w1.heap.size + 1, 1, none⟩ = some (.int .i64 1) ∧ W.cell? ⟨w1.heap.size + 1, 2, none⟩ = some (.slice none 0 0) ∧ W.cell? ⟨w1.heap.size + 1, 3, none⟩ = some (.slice (some ⟨w1.heap.size, 0, none⟩) 1 1) from fun W h => HP.out W (bthen hb26 h))
  have jy : ∀ (W : World) (b : Nat), Below w6.heap.size w6 W → W.cell? ⟨b, 0, none⟩ = some (.slice (some ⟨w4.heap.size, 2, none⟩) 4096 4096) → typOf W b = some 31 →
      Calls Tryd.prog 28 #[.agg #[.int .i64 1, .int .i64 1, .slice none 0 0, .slice (some ⟨w1.heap.size, 0, none⟩) 1 1], .slice (some ⟨b, 0, none⟩) 1 1] W (fun e w' => e = .returned (.tuple #[.int .i64 0, .int .i64 0]) ∧ Below W.heap.size W w') := fun W b hb hc ht => by
    have h6 : W.heap[w4.heap.size]? = some (Obj.cells (zcel (4096 + 1)) 34 (0, 0)) := ((bthen hb6 hb).block _ (Array.getElem?_eq_some_iff.1 hh5.out).1).trans hh5.out
    have := HJ.out W b _ (List.replicate 4096 0) 4096 (bthen hb6 hb) hc ht (long1 (by omega) h6) List.length_replicate (by omega) (HRP.out _)
    rwa [if_pos (by omega)] at this
  have hBc := Below.refl w6.heap.size w6
  go_wp2
  go_region_held3 (fun w' => w'.cell? ⟨w1.heap.size + 1, 0, none⟩ = some (.int .i64 1) ∧ w'.cell? ⟨w1.heap.size + 1, 1, none⟩ = some (.int .i64 1) ∧ w'.cell? ⟨w1.heap.size + 1, 2, none⟩ = some (.slice none 0 0) ∧ w'.cell? ⟨w1.heap.size + 1, 3, none⟩ = some (.slice (some ⟨w1.heap.size, 0, none⟩) 1 1))
    (first | (refine HS.out _ ?_; (repeat (first | exact Below.refl _ _ | exact hBc | refine Below.drew ?_ | refine below_drewN ?_ _ | refine bset ?_ (by simp <;> omega) _ | refine bal ?_ _)); done) | fail)
    (first
      | (go_at_call 28; refine (jy _ _ ?_ ?_ ?_).mono ?_; (repeat (first | exact Below.refl _ _ | exact hBc | refine Below.drew ?_ | refine below_drewN ?_ _ | refine bset ?_ (by simp <;> omega) _ | refine bal ?_ _)); (repeat (first | (refine cell_new ?_ rfl; first | (with_reducible rfl) | (simp only [World.size_alloc]; done)) | (with_reducible refine cell_drew ?_) | (with_reducible refine cell_alloc ?_ _))); (exact typ_fresh (by simp)); rintro e w7 ⟨rfl, hb7⟩; (have hBd : Below w6.heap.size w6 w7 := bthen (by repeat (first | exact Below.refl _ _ | exact hBc | refine Below.drew ?_ | refine below_drewN ?_ _ | refine bset ?_ (by simp <;> omega) _ | refine bal ?_ _)) hb7; clear hBc; have hBc := hBd; clear hBd))
      | fail)
  all_goals
    have hrc7 := bkeep (bthen hb34 (bthen hb45 (bthen hb6 hBc))) hrc
    have zrc := cell_lt hrc7
    have hw7 := Below.refl w7.heap.size w7
    clear jy p0 p1 p2 p3
    go_wp2_with fail
    refine (live_c _).mono ?_
    rintro e w8 ⟨rfl, hb8⟩
    have hB8 : Below w.heap.size w w8 := bthen hB1 (bthen hb12 (bthen hb26 (bthen hBc (bthen (by repeat (first | exact Below.refl _ _ | exact hw7 | refine Below.drew ?_ | refine below_drewN ?_ _ | refine bset ?_ (by simp <;> omega) _ | refine bal ?_ _)) hb8))))
    go_wp2
    go_ret
    exact ⟨rfl, hB8⟩
end Go.Proofs.YtannhpadoooedaaDoor
