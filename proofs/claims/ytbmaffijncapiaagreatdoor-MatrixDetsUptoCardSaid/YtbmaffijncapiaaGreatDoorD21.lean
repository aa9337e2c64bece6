/- Texts of this seat, laid together: MxJ, MxL, FrB, FrC. Each opens with its own remark, which says what it proves, and under which conditions. -/
import Derived.Test.YtbmaffijncapiaaGreatDoorD20
import Derived.Test.YtbmaffijncapiaaGreatDoorD19
import Derived.Test.YtbmaffijncapiaaGreatDoorD15
import Derived.Test.YtbmaffijncapiaaGreatDoorD17
set_option linter.unusedVariables false
set_option linter.unusedSimpArgs false
/- matrix: det, Det. -/
namespace Go.Proofs.YtbmaffijncapiaaGreatDoor
open Num
open Go.ChangeShapes Go.WideShapes Go.ChangeAt Go.RowKit
set_option linter.unusedVariables false
set_option linter.unusedSimpArgs false
attribute [local go_sem ↓] Go.wp_at_zero Go.wp_at_succ
set_option maxRecDepth 100000 in
set_option maxHeartbeats 4000000 in
theorem det_c (v : Value) (g : Grid) (K : Nat) (w : World) (hv : IsL 68 (PRow 0) 0 w v g) (hr : Rct g g.length) (hn : g.length ≤ 1099511627775) (hK1 : 1 ≤ K) (hbd : BdM K g) (hK : kb K g.length ≤ 4294967296) :
    Calls Tryz.prog 148 #[v] w fun e w' => (∃ u, e = .returned u ∧ IsInt w' u (Det.detE g.length (gat g))) ∧ Below w.heap.size w w' := by
  have ec := fun W (q : Below w.heap.size w W) => elim_c v g g.length g.length K W (hv.keep (prs_prow 0) q) hr hn hn (Nat.le_refl _) (fun h => h) (fun h => h) hK1 hbd hK
  have EC := Lib.hid ec
  obtain ⟨ga, gc, rfl, -⟩ := hv
  unfold ElimPost at EC
  obtain ⟨s, hs⟩ : ∃ s, Det.elR g.length (gat g) g.length = s := ⟨_, rfl⟩
  have HD := Lib.hid (show Det.detE g.length (gat g) = if s.p.length < g.length then 0 else s.last * s.sign from by unfold Det.detE; rw [hs])
  rw [hs] at EC
  clear ec hs hr hK1 hbd hK
  obtain ⟨p, hp⟩ : ∃ p, s.p = p := ⟨_, rfl⟩
  obtain ⟨z, hz⟩ : ∃ z, s.last * s.sign = z := ⟨_, rfl⟩
  rw [hp, hz] at EC HD
  clear hp hz
  obtain ⟨n, hn'⟩ : ∃ n, g.length = n := ⟨_, rfl⟩
  rw [hn'] at EC hn HD ⊢
  clear hn'
  have hB := Below.refl w.heap.size w
  go_enter Tryz.func148, Tryz.ntmps148
  go_wp2_with fail
  refine (EC.out _ (by repeat (first|exact bzR _ _|exact hB|refine bzD ?_|refine bzN ?_|refine bzS ?_|refine bzA ?_))).mono ?_
  rintro e w1 ⟨⟨a, c, pa, pc, u, rfl, -, hu⟩, hb1⟩
  have r0 : w1.cell? ⟨w.heap.size, 0, none⟩ = some (.bool false) := bkc hb1
  have zr0 := cell_lt r0
  have r0f : w1.frozen? ⟨w.heap.size, 0, none⟩ = false := bkcf (v := .bool false) hb1
  have r1 : w1.cell? ⟨w.heap.size, 1, none⟩ = some (.slice none 0 0) := bkc hb1
  have r1f : w1.frozen? ⟨w.heap.size, 1, none⟩ = false := bkcf (v := .slice none 0 0) hb1
  have hB : Below w.heap.size w w1 := bthen (by repeat (first|exact bzR _ _|exact hB|refine bzD ?_|refine bzN ?_|refine bzS ?_|refine bzA ?_)) hb1
  have hz : w.heap.size ≤ w1.heap.size := hB.size
  have HU := Lib.hid hu
  obtain ⟨nu, au, cu, lu, rfl, -⟩ := hu
  unfold iv at *
  have hB1 : Below w.heap.size w w1 := bthen (by repeat (first|exact bzR _ _|exact hB|refine bzD ?_|refine bzN ?_|refine bzS ?_|refine bzA ?_)) hb1
  have zr := cell_lt r0
  by_cases hlt : p.length < n
  · have hltI : (p.length : Int) < (n : Int) := by omega
    clear EC HU
    go_wp2
    refine bodyPost_ret (v := .agg #[.bool false, .slice none 0 0]) (by simp [results, Tryz.results148, go_sem, *]) rfl ⟨⟨_, rfl, by rw [HD.out, if_pos hlt]; exact isInt_zero _⟩, ?_⟩
    repeat (first|exact bzR _ _|exact hB1|refine bzD ?_|refine bzN ?_|refine bzS ?_|refine bzA ?_)
  · have hltI : ¬ (p.length : Int) < (n : Int) := by omega
    have hp := Lib.hid ((HU.out.put2 r0 r1 (.bool nu) (.slice au lu.length cu)).keep (bal (Below.refl _ _) (.cells #[.bool nu, .slice au lu.length cu] 50)))
    clear EC
    go_wp2
    refine bodyPost_ret (v := .agg #[.bool nu, .slice au lu.length cu]) (by simp [results, Tryz.results148, go_sem, *]) rfl ⟨⟨_, rfl, ?_⟩, ?_⟩
    · rw [HD.out, if_neg hlt]; exact hp.out
    repeat (first|exact bzR _ _|exact hB1|refine bzD ?_|refine bzN ?_|refine bzS ?_|refine bzA ?_)
end Go.Proofs.YtbmaffijncapiaaGreatDoor

/- matrix: Adjugate's function value. -/
namespace Go.Proofs.YtbmaffijncapiaaGreatDoor
open Num
open Go.ChangeShapes Go.WideShapes Go.ChangeAt Go.RowKit
set_option linter.unusedVariables false
set_option linter.unusedSimpArgs false
attribute [local go_sem ↓] Go.wp_at_zero Go.wp_at_succ
def leftG (g : Grid) (j i k : Nat) : Grid := ((g.take k).eraseIdx j).map (·.eraseIdx i)
theorem left_skip {g : Grid} {j i k : Nat} (hk : k < g.length) (h : k = j) : leftG g j i (k + 1) = leftG g j i k := by
  subst h
  unfold leftG
  rw [take_getD [] hk, List.eraseIdx_append_of_length_le (by simp; omega), List.eraseIdx_of_length_le (l := g.take k) (by simp; omega)]
  simp [Nat.min_eq_left (Nat.le_of_lt hk)]
theorem left_next {g : Grid} {j i k : Nat} (hk : k < g.length) (h : k ≠ j) : leftG g j i (k + 1) = leftG g j i k ++ [(g.getD k []).eraseIdx i] := by
  unfold leftG
  rw [take_getD [] hk]
  by_cases e : j < k
  · rw [List.eraseIdx_append_of_lt_length (by simp; omega)]; simp
  · rw [List.eraseIdx_of_length_le (l := g.take k) (by simp; omega), List.eraseIdx_of_length_le (by simp; omega)]; simp
theorem erase_getD {l : List Int} {i k : Nat} : (l.eraseIdx i).getD k 0 = l.getD (Det.skip i k) 0 := by
  unfold Det.skip
  simp only [List.getD_eq_getElem?_getD, List.getElem?_eraseIdx]
  split <;> rfl
theorem left_len (g : Grid) (j i k : Nat) : (leftG g j i k).length ≤ k := by
  unfold leftG
  rw [List.length_map]
  exact Nat.le_trans (List.length_eraseIdx_le _ _) (by rw [List.length_take]; omega)
theorem left_all {g : Grid} {j i : Nat} (hj : j < g.length) : (leftG g j i g.length).length = g.length - 1 := by
  unfold leftG; rw [List.take_length, List.length_map, List.length_eraseIdx_of_lt hj]
theorem left_row {g : Grid} {j i r : Nat} (hj : j < g.length) (hr : r < g.length - 1) : (leftG g j i g.length).getD r [] = (g.getD (Det.skip j r) []).eraseIdx i := by
  unfold leftG Det.skip
  rw [List.take_length, List.getD_eq_getElem?_getD, List.getElem?_map, List.getElem?_eraseIdx, List.getD_eq_getElem?_getD]
  split
  · rw [List.getElem?_eq_getElem (by omega)]; rfl
  · rw [List.getElem?_eq_getElem (by omega)]; rfl
theorem left_gat {g : Grid} {j i r c : Nat} (hj : j < g.length) (hr : r < g.length - 1) : gat (leftG g j i g.length) r c = gat g (Det.skip j r) (Det.skip i c) := by
  unfold gat; rw [left_row hj hr, erase_getD]
theorem left_rct {g : Grid} {j i : Nat} (hj : j < g.length) (hi : i < g.length) (h : Rct g g.length) : Rct (leftG g j i g.length) (leftG g j i g.length).length := by
  intro r hr
  rw [left_all hj] at hr ⊢
  rw [left_row hj hr, List.length_eraseIdx_of_lt]
  · rw [h _ (by unfold Det.skip; split <;> omega)]
  · rw [h _ (by unfold Det.skip; split <;> omega)]; exact hi
theorem left_bd {g : Grid} {j i K : Nat} (hj : j < g.length) (h : BdM K g) : BdM K (leftG g j i g.length) := by
  intro r c
  by_cases e : r < g.length - 1
  · rw [left_gat hj e]; exact h _ _
  · unfold gat
    have h0 : (leftG g j i g.length).getD r [] = [] := by rw [List.getD_eq_getElem?_getD, List.getElem?_eq_none (by rw [left_all hj]; omega)]; rfl
    rw [h0]
    exact bd_zero
theorem left_det {g : Grid} {j i : Nat} (hj : j < g.length) : Det.detE (leftG g j i g.length).length (gat (leftG g j i g.length)) = Det.detE (g.length - 1) (fun r c => gat g (Det.skip j r) (Det.skip i c)) := by
  rw [left_all hj]
  exact Det.detE_congr fun r c hr _ => left_gat hj hr
theorem isL_two {w : World} {b : Nat} {u1 u2 : Value} {l1 l2 : List Int} {c : Nat} (h1 : w.cell? ⟨b, 0, none⟩ = some u1) (h2 : w.cell? ⟨b, 1, none⟩ = some u2) (hc : 2 ≤ c) (hc2 : c ≤ maxLen) (ht : typOf w b = some 68) (p1 : PSl w u1 l1) (p2 : PSl w u2 l2) :
    IsL 68 PSl 0 w (.slice (some ⟨b, 0, none⟩) 2 c) [l1, l2] := by
  refine ⟨_, c, rfl, hc, hc2, .inr ⟨b, 0, rfl, Nat.zero_le _, ht, fun k hk => ?_⟩⟩
  match k, hk with
  | 0, _ => exact ⟨u1, by simpa using h1, p1⟩
  | 1, _ => exact ⟨u2, by simpa using h2, p2⟩
theorem IntsF.shift {w : World} {b off n d : Nat} {l : List Int} (h : IntsF IsInt w b off n (fun k => l.getD k 0)) {m : Nat} (hm : d + m ≤ n) : IntsF IsInt w b (off + d * 2) m (fun k => (l.drop d).getD k 0) := fun k hk => by
  obtain ⟨nb, a, len, c, k1, k2, k3⟩ := h (d + k) (by omega)
  refine ⟨nb, a, len, c, by rw [show off + d * 2 + k * 2 = off + (d + k) * 2 by omega]; exact k1, by rw [show off + d * 2 + k * 2 + 1 = off + (d + k) * 2 + 1 by omega]; exact k2, ?_⟩
  show IsInt _ _ ((l.drop d).getD k 0)
  rw [List.getD_eq_getElem?_getD, List.getElem?_drop, ← List.getD_eq_getElem?_getD]; exact k3
theorem IntsF.head {w : World} {b off n m : Nat} {l : List Int} (h : IntsF IsInt w b off n (fun k => l.getD k 0)) (hm : m ≤ n) : IntsF IsInt w b off m (fun k => (l.take m).getD k 0) := fun k hk => by
  obtain ⟨nb, a, len, c, k1, k2, k3⟩ := h k (by omega)
  refine ⟨nb, a, len, c, k1, k2, ?_⟩
  show IsInt _ _ ((l.take m).getD k 0)
  rw [List.getD_eq_getElem?_getD, List.getElem?_take_of_lt hk, ← List.getD_eq_getElem?_getD]; exact k3
theorem prow_block {base : Nat} {w : World} {v : Value} {l : List Int} (h : PRow base w v l) (hl : 0 < l.length) : ∃ b off c, v = .slice (some ⟨b, off, none⟩) l.length c ∧ l.length ≤ c ∧ c ≤ maxLen ∧ typOf w b = some 50 ∧ IntsF IsInt w b off l.length (fun k => l.getD k 0) := by
  obtain ⟨a, c, e, hlc, hcm, h⟩ := h
  rcases h with rfl | ⟨b, off, rfl, _, ht, hi⟩
  · simp at hl
  · exact ⟨b, off, c, e, hlc, hcm, ht, hi⟩
theorem detE_bd {g : Grid} {K : Nat} (h1 : 1 ≤ K) (hb : BdM K g) {n : Nat} (hn : g.length = n) : Bd (kb K n) (Det.detE g.length (gat g)) := by
  subst hn
  unfold Det.detE
  split
  · exact bd_zero
  · have h2 := (elR_bd (n := g.length) (m := g.length) (K := K) h1 (fun r c _ _ => hb r c) g.length (Nat.le_refl _)).2
    rcases elR_sgn g.length (gat g) g.length with e | e <;> rw [e]
    · rw [Int.mul_one]; exact h2
    · unfold Bd; rw [Int.mul_neg, Int.mul_one, Int.natAbs_neg]; exact h2
theorem psl_head {W : World} {rb ro n rc i : Nat} {row : List Int} (ht : typOf W rb = some 50) (h : IntsF IsInt W rb ro n (fun k => row.getD k 0)) (hl : row.length = n) (hi : i ≤ n) : PSl W (.slice (some ⟨rb, ro, none⟩) i rc) (row.take i) := by
  have e : (row.take i).length = i := by rw [List.length_take]; omega
  exact ⟨rb, ro, rc, by rw [e], ht, by rw [e]; exact h.head hi⟩
theorem psl_tail {W : World} {rb ro n rc i : Nat} {row : List Int} (ht : typOf W rb = some 50) (h : IntsF IsInt W rb ro n (fun k => row.getD k 0)) (hl : row.length = n) (hi : i < n) : PSl W (.slice (some ⟨rb, ro + (i + 1) * 2, none⟩) (n - (i + 1)) rc) (row.drop (i + 1)) := by
  have e : (row.drop (i + 1)).length = n - (i + 1) := by rw [List.length_drop, hl]
  exact ⟨rb, ro + (i + 1) * 2, rc, by rw [e], ht, by rw [e]; exact h.shift (by omega)⟩
theorem psl_none {W : World} {rb ro n rc i : Nat} {row : List Int} (ht : typOf W rb = some 50) (hl : row.length = n) (hi : n ≤ i + 1) : PSl W (.slice (some ⟨rb, ro, none⟩) (n - (i + 1)) rc) (row.drop (i + 1)) := by
  have e : (row.drop (i + 1)).length = n - (i + 1) := by rw [List.length_drop, hl]
  exact ⟨rb, ro, rc, by rw [e], ht, fun k hk => by rw [e] at hk; omega⟩
theorem erase_flat {n i : Nat} {row : List Int} (hl : row.length = n) (hi : i < n) : [row.take i, row.drop (i + 1)].flatten = row.eraseIdx i ∧ [row.take i, row.drop (i + 1)].flatten.length = n - 1 := by
  have e : [row.take i, row.drop (i + 1)].flatten = row.eraseIdx i := by rw [List.eraseIdx_eq_take_drop_succ]; simp
  exact ⟨e, by rw [e, List.length_eraseIdx_of_lt (by omega), hl]⟩
theorem two_le {k j n : Nat} (hk : k < n) (hj : j < n) (e : k ≠ j) : 2 ≤ n := by omega
theorem len_bd {L k n : Nat} (h : L ≤ k) (h2 : k ≤ n) (h3 : n ≤ 65536) : (L + 1) * 24 ≤ 140737488355328 := by omega
theorem len_bd2 {L k n : Nat} (h : L ≤ k) (h2 : k ≤ n) (h3 : n ≤ 65536) : L + 1 ≤ maxLen := by unfold maxLen; omega
theorem wr_succ {i n : Nat} (h : i < n) (hn : n ≤ 65536) : wrap64 ((i : Int) + 1) = (i : Int) + 1 ∧ IntKind.i64.wrap ((i : Int) + 1) = (i : Int) + 1 ∧ ((i : Int) + 1).toNat = i + 1 ∧ 0 ≤ (i : Int) + 1 ∧ (i : Int) + 1 ≤ (n : Int) := by
  have h1 : wrap64 ((i : Int) + 1) = (i : Int) + 1 := by unfold wrap64; omega
  exact ⟨h1, by rw [IntKind.wrap_i64]; omega, by omega, by omega, by omega⟩
theorem wr_add {i j n : Nat} (h : i < n) (h2 : j < n) (hn : n ≤ 65536) : wrap64 ((i : Int) + j) = (i : Int) + j ∧ IntKind.i64.wrap ((i : Int) + j) = (i : Int) + j := by
  have h1 : wrap64 ((i : Int) + j) = (i : Int) + j := by unfold wrap64; omega
  exact ⟨h1, by rw [IntKind.wrap_i64]; omega⟩
theorem tmod_two (i j : Nat) : ((i : Int) + (j : Int)).tmod 2 = (((i + j) % 2 : Nat) : Int) := by
  rw [Int.tmod_eq_emod_of_nonneg (by omega)]; omega
set_option maxRecDepth 100000 in
set_option maxHeartbeats 8000000 in
theorem adj1_c (mb : Nat) (g : Grid) (K : Nat) (w : World) (hm : BoxM mb w g) (hr : Rct g g.length) (hn : g.length ≤ 65536) (hK1 : 1 ≤ K) (hbd : BdM K g) (hK : kb K (g.length - 1) ≤ 4294967296) :
    FnF (Det.iadj g.length (gat g)) g.length g.length 158 #[.pointer (some ⟨mb, 0, none⟩)] w := by
  intro W i j hi hj hW
  show Calls Tryz.prog 158 #[.int .i64 (i : Nat), .int .i64 (j : Nat), .pointer (some ⟨mb, 0, none⟩)] W _
  have hM := hm.keep hW
  have HM := Lib.hid hM
  have HR := Lib.hid hr
  have HBD := Lib.hid hbd
  obtain ⟨gc, gb, go, -, -, m0, -, -⟩ := hM.row (show 0 < g.length by omega)
  have zm := cell_lt m0
  have hB := Below.refl W.heap.size W
  clear hm hr hbd hW
  obtain ⟨n, hnn⟩ : ∃ n, g.length = n := ⟨_, rfl⟩
  have HN := Lib.hid hnn
  have HDT := Lib.hid (left_det (i := i) hj)
  have HLR := Lib.hid (left_rct hj hi HR.out)
  have HLB := Lib.hid (left_bd (i := i) hj HBD.out)
  have HLA := Lib.hid (left_all (i := i) hj)
  rw [hnn] at m0 hi hj hn hK HDT HLR HLB HLA ⊢
  clear hnn
  go_enter Tryz.func158, Tryz.ntmps158
  go_wp2
  refine wp_name fun w1 hW1 => ?_
  have hB1 : Below W.heap.size W w1 := by rw [hW1]; repeat (first|exact bzR _ _|exact hB|refine bzD ?_|refine bzN ?_|refine bzS ?_|refine bzA ?_)
  have HR1 := Lib.hid (show w1.cell? ⟨W.heap.size, 0, none⟩ = some (.bool false) ∧ w1.cell? ⟨W.heap.size, 1, none⟩ = some (.slice none 0 0) ∧ w1.frozen? ⟨W.heap.size, 0, none⟩ = false ∧ w1.frozen? ⟨W.heap.size, 1, none⟩ = false from by rw [hW1]; simp [go_sem])
  have HM1 := Lib.hid (HM.out.keep hB1)
  have HM0 := Lib.hid (bkeep hB1 m0)
  clear hW1
  have m0 := HM0.out
  have zm := cell_lt m0
  go_wp2
  have hb11 := Below.refl w1.heap.size w1
  go_loopw [6, 13] (fun v x wr => ∃ k : Nat, k ≤ n ∧ x = .int .i64 k ∧ Hid (OwnL 68 (PRow w1.heap.size) w1 wr v (leftG g j i k))) (fun _ x _ => n - (intOf x).toNat)
  case atStart => exact ⟨0, Nat.zero_le _, rfl, Lib.hid (OwnL.nil _ _ hb11)⟩
  case round =>
    obtain ⟨k, hk, rfl, hO⟩ := hrel
    have hBr := hO.out.bel
    by_cases hlt : k < n
    · have hltI : (k : Int) < (n : Int) := by omega
      have hkg : k < g.length := by rw [HN.out]; exact hlt
      obtain ⟨c2, gb2, go2, ra, rc, m2, hu, hp⟩ := (HM1.out.keep hBr).row hkg
      rw [HN.out] at m2
      obtain ⟨rfl, rfl, rfl⟩ : gb = gb2 ∧ go = go2 ∧ gc = c2 := by
        have h1 := Option.some.inj ((bkeep hBr HM0.out).symm.trans m2)
        have h2 := Value.slice.inj h1
        simp at h2
        exact ⟨h2.1.1, h2.1.2, h2.2⟩
      have m0 := bkeep hBr HM0.out
      clear m2
      have hrl := HR.out k hkg
      rw [HN.out] at hrl
      by_cases e : k = j
      · have eI : ((k : Int) != (j : Int)) = false := by simp [e]
        have HS := Lib.hid (left_skip (i := i) hkg e)
        have zm := cell_lt m0
        have zu := cell_lt hu
        clear hp hrl e
        go_wp2
        exact ⟨⟨k + 1, by omega, by go_num, Lib.hid (by rw [HS.out]; exact hO.out)⟩, by simp [intOf]; omega⟩
      · have eI : ((k : Int) != (j : Int)) = true := by simp; omega
        have HS := Lib.hid (left_next (i := i) hkg e)
        have eN := e
        obtain ⟨rb, ro, rc', he, hlc, hcm, ht, hI⟩ := prow_block hp (by rw [hrl]; omega)
        obtain ⟨rfl, -, rfl⟩ := Value.slice.inj he
        rw [hrl] at hu hI hlc
        obtain ⟨row, hrow⟩ : ∃ row, g.getD k [] = row := ⟨_, rfl⟩
        rw [hrow] at HS hI hrl
        have HI := Lib.hid (And.intro ht hI)
        have HRL := Lib.hid hrl
        have zm := cell_lt m0
        have zu := cell_lt hu
        have hiI : (i : Int) ≤ (rc : Int) := by omega
        obtain ⟨hw0, hw1, hw2, hw3, hw4⟩ := wr_succ hi hn
        obtain ⟨hv0, hv1, -, -, -⟩ := wr_succ hlt hn
        have hn2 : 2 ≤ n := two_le hlt hj eN
        have hN1 : 0 < n - 1 := Nat.sub_pos_of_lt hn2
        have hN2 : n - 1 ≤ 1099511627776 := Nat.le_trans (Nat.sub_le _ _) (Nat.le_trans hn (by decide))
        have HP1 := Lib.hid (fun W (q : Below wr.heap.size wr W) (c : Nat) => psl_head (rc := c) (typ_keep HI.out.1 q) (HI.out.2.keep lims_int q) HRL.out (Nat.le_of_lt hi))
        have HP2 := Lib.hid (fun W (q : Below wr.heap.size wr W) (_ : rc ≠ i + 1) => psl_tail (rc := rc - (i + 1)) (typ_keep HI.out.1 q) (HI.out.2.keep lims_int q) HRL.out hi)
        have HP3 := Lib.hid (fun W (q : Below wr.heap.size wr W) (e : rc = i + 1) (c : Nat) => psl_none (ro := ro) (rc := c) (typ_keep HI.out.1 q) HRL.out (show n ≤ i + 1 from e ▸ hlc))
        have HFL := Lib.hid (erase_flat HRL.out hi)
        clear he hp hI ht hrow hrl e
        obtain ⟨la, lc, hlv⟩ := hO.out.ex
        obtain ⟨LL, hLL⟩ : ∃ l, (leftG g j i k).length = l := ⟨_, rfl⟩
        rw [hLL] at hlv
        subst hlv
        have HLL := Lib.hid hLL
        clear hLL
        have hBw := Below.refl wr.heap.size wr
        have hLLk := left_len g j i k
        rw [HLL.out] at hLLk
        have hA1 : (LL + 1) * 24 ≤ 140737488355328 := len_bd hLLk hk hn
        have hA2 : LL + 1 ≤ maxLen := len_bd2 hLLk hk hn
        clear eN
        have cc := fun W u (h : IsL 68 PSl 0 W u [row.take i, row.drop (i + 1)]) => concat_c u [row.take i, row.drop (i + 1)] W h (by rw [HFL.out.2]; exact hN1) (by rw [HFL.out.2]; exact hN2) (by simp)
        rw [HFL.out.1] at cc
        have HO0 := Lib.hid hO.out
        clear hO
        by_cases hrc : rc = i + 1
        · have hiJ : (i : Int) ≤ ((i + 1 : Nat) : Int) := Int.ofNat_le.2 (Nat.le_succ i)
          have hiK : (i : Int) ≤ (i : Int) + 1 := Int.le_add_one (Int.le_refl _)
          go_wp2
          go_region_held3 (fun W => True)
            (first | trivial | fail)
            (first
            | (refine stepL elRow (prs_prow _) (by decide) (by rfl) (by rfl) (HO5.out.below (prs_prow _) (bal (Below.refl _ _) _)) ((prs_prow _).kp HR5.out (Kp.of_below _ (bal (Below.refl _ _) _))) (by rfl) (by rfl) (cell_new rfl rfl) (by rw [HLL.out]; exact hA1) (by rw [HLL.out]; exact hA2) ?_; intro v' w8 hO8 hk8; have HO8 := Lib.hid hO8; clear hO8 hk8)
            | (go_at_call 159; refine (cc _ _ (isL_two ?_ ?_ (by decide) (by unfold maxLen; decide) ?_ (HP1.out _ ?_ (i + 1)) (HP3.out _ ?_ hrc 0))).mono ?_; (first | exact cell_drew (cell_new rfl rfl) | exact cell_new rfl rfl); (first | exact cell_drew (cell_new rfl rfl) | exact cell_new rfl rfl); (exact typ_fresh rfl); (repeat (first|exact bzR _ _|exact hBw|refine bzD ?_|refine bzN ?_|refine bzS ?_|refine bzA ?_)); (repeat (first|exact bzR _ _|exact hBw|refine bzD ?_|refine bzN ?_|refine bzS ?_|refine bzA ?_)); rintro e w5 ⟨⟨v5, rfl, hr5⟩, hb5⟩; have hB5 : Below wr.heap.size wr w5 := bthen (by repeat (first|exact bzR _ _|exact hBw|refine bzD ?_|refine bzN ?_|refine bzS ?_|refine bzA ?_)) hb5; have HR5 := Lib.hid (show PRow w1.heap.size w5 v5 (row.eraseIdx i) from hr5.row.rebase (show w1.heap.size ≤ _ from Nat.le_trans hBr.size (bal (Below.refl wr.heap.size wr) _).size)); have HO5 := Lib.hid (HO0.out.below (prs_prow _) hB5); obtain ⟨a5, c5, rfl⟩ := hr5.ex; clear hr5 hb5)
            | fail)
          all_goals
            rw [← HS.out] at HO8
            go_wp2
            exact ⟨⟨k + 1, hlt, by go_num, HO8⟩, meas hlt (by go_num) rfl⟩
        ·
          go_wp2
          go_region_held3 (fun W => True)
            (first | trivial | fail)
            (first
            | (refine stepL elRow (prs_prow _) (by decide) (by rfl) (by rfl) (HO5.out.below (prs_prow _) (bal (Below.refl _ _) _)) ((prs_prow _).kp HR5.out (Kp.of_below _ (bal (Below.refl _ _) _))) (by rfl) (by rfl) (cell_new rfl rfl) (by rw [HLL.out]; exact hA1) (by rw [HLL.out]; exact hA2) ?_; intro v' w8 hO8 hk8; have HO8 := Lib.hid hO8; clear hO8 hk8)
            | (go_at_call 159; refine (cc _ _ (isL_two ?_ ?_ (by decide) (by unfold maxLen; decide) ?_ (HP1.out _ ?_ rc) (HP2.out _ ?_ hrc))).mono ?_; (first | exact cell_drew (cell_new rfl rfl) | exact cell_new rfl rfl); (first | exact cell_drew (cell_new rfl rfl) | exact cell_new rfl rfl); (exact typ_fresh rfl); (repeat (first|exact bzR _ _|exact hBw|refine bzD ?_|refine bzN ?_|refine bzS ?_|refine bzA ?_)); (repeat (first|exact bzR _ _|exact hBw|refine bzD ?_|refine bzN ?_|refine bzS ?_|refine bzA ?_)); rintro e w5 ⟨⟨v5, rfl, hr5⟩, hb5⟩; have hB5 : Below wr.heap.size wr w5 := bthen (by repeat (first|exact bzR _ _|exact hBw|refine bzD ?_|refine bzN ?_|refine bzS ?_|refine bzA ?_)) hb5; have HR5 := Lib.hid (show PRow w1.heap.size w5 v5 (row.eraseIdx i) from hr5.row.rebase (show w1.heap.size ≤ _ from Nat.le_trans hBr.size (bal (Below.refl wr.heap.size wr) _).size)); have HO5 := Lib.hid (HO0.out.below (prs_prow _) hB5); obtain ⟨a5, c5, rfl⟩ := hr5.ex; clear hr5 hb5)
            | fail)
          all_goals
            rw [← HS.out] at HO8
            go_wp2
            exact ⟨⟨k + 1, hlt, by go_num, HO8⟩, meas hlt (by go_num) rfl⟩
    · obtain rfl : k = n := Nat.le_antisymm hk (Nat.le_of_not_lt hlt)
      have hltI : ¬ (k : Int) < (k : Int) := Int.lt_irrefl _
      obtain ⟨la, lc, hlv⟩ := hO.out.ex
      have HIL : Hid (IsL 68 (PRow 0) 0 wr _ (leftG g j i k)) := Lib.hid ((hO.out.isL.mono fun u x h => h.rebase (Nat.zero_le _)).rebase (Nat.zero_le _))
      subst hlv
      have dc := fun W (q : Below wr.heap.size wr W) => det_c _ (leftG g j i k) K W (HIL.out.keep (prs_prow 0) q) HLR.out (by rw [HLA.out]; exact Nat.le_trans (Nat.sub_le _ _) (Nat.le_trans hn (by decide))) hK1 HLB.out (by rw [HLA.out]; exact hK)
      rw [HDT.out] at dc
      obtain ⟨d, hd⟩ : ∃ d, Det.detE (k - 1) (fun r c => gat g (Det.skip j r) (Det.skip i c)) = d := ⟨_, rfl⟩
      have HDB : Hid (Bd (kb K (k - 1)) d) := Lib.hid (by
        rw [← hd, ← HDT.out]
        exact detE_bd hK1 HLB.out (by rw [HLA.out]))
      have HIA := Lib.hid (show Det.iadj k (gat g) i j = if (i + j) % 2 = 1 then -d else d from by unfold Det.iadj; rw [hd])
      rw [hd] at dc
      obtain ⟨LL, hLL⟩ : ∃ l, (leftG g j i k).length = l := ⟨_, rfl⟩
      rw [hLL] at dc ⊢
      have r0f := bkeepf hBr HR1.out.1 HR1.out.2.2.1
      have r1f := bkeepf hBr HR1.out.2.1 HR1.out.2.2.2
      have r0 := bkeep hBr HR1.out.1
      have r1 := bkeep hBr HR1.out.2.1
      have hBW := bthen hB1 hBr
      have hBw := Below.refl wr.heap.size wr
      have zr := cell_lt r0
      clear hO HIL hd hLL
      go_wp2_with fail
      refine (dc _ (by repeat (first|exact bzR _ _|exact hBw|refine bzD ?_|refine bzN ?_|refine bzS ?_|refine bzA ?_))).mono ?_
      rintro e w5 ⟨⟨v5, rfl, hv5⟩, hb5⟩
      have hb5' : Below wr.heap.size wr w5 := bthen (by repeat (first|exact bzR _ _|exact hBw|refine bzD ?_|refine bzN ?_|refine bzS ?_|refine bzA ?_)) hb5
      have HV5 := Lib.hid hv5
      obtain ⟨n5, a5, c5, l5, rfl, -⟩ := hv5
      unfold iv at *
      replace r0f := bkeepf hb5' r0 r0f
      replace r1f := bkeepf hb5' r1 r1f
      replace r0 := bkeep hb5' r0
      replace r1 := bkeep hb5' r1
      replace zr := cell_lt r0
      have hB5 := bthen hBW hb5'
      obtain ⟨hs1', hs1⟩ := wr_add hi hj hn
      have HTM := Lib.hid (tmod_two i j)
      clear dc hb5 hBw
      by_cases hp : (i + j) % 2 = 1
      · have hs2 : ((i : Int) + (j : Int)).tmod 2 = 1 := by rw [HTM.out, hp]; rfl
        have nc := fun W (q : Below w5.heap.size w5 W) => neg_c _ d W (HV5.out.keep q)
        have hBw5 := Below.refl w5.heap.size w5
        go_wp2_with fail
        refine (nc _ (by repeat (first|exact bzR _ _|exact hBw5|refine bzD ?_|refine bzN ?_|refine bzS ?_|refine bzA ?_))).mono ?_
        rintro e w6 ⟨⟨v6, rfl, hv6⟩, hb6⟩
        have hb5a : Below w5.heap.size w5 (w5.alloc (.cells #[.bool n5, .slice a5 l5.length c5] 50)) := bal (Below.refl _ _) _
        have d0 := bkeep hb6 (show (w5.alloc (.cells #[.bool n5, .slice a5 l5.length c5] 50)).cell? ⟨w5.heap.size, 0, none⟩ = some (.bool n5) from cell_new rfl rfl)
        have d1 := bkeep hb6 (show (w5.alloc (.cells #[.bool n5, .slice a5 l5.length c5] 50)).cell? ⟨w5.heap.size, 1, none⟩ = some (.slice a5 l5.length c5) from cell_new rfl rfl)
        have d0f := bkeepf hb6 (v := .bool n5) (cell_new rfl rfl) (by simp [go_sem] : (w5.alloc (.cells #[.bool n5, .slice a5 l5.length c5] 50)).frozen? ⟨w5.heap.size, 0, none⟩ = false)
        have d1f := bkeepf hb6 (v := .slice a5 l5.length c5) (cell_new rfl rfl) (by simp [go_sem] : (w5.alloc (.cells #[.bool n5, .slice a5 l5.length c5] 50)).frozen? ⟨w5.heap.size, 1, none⟩ = false)
        have hb6' : Below w5.heap.size w5 w6 := bthen hb5a hb6
        replace r0f := bkeepf hb6' r0 r0f
        replace r1f := bkeepf hb6' r1 r1f
        replace r0 := bkeep hb6' r0
        replace r1 := bkeep hb6' r1
        have hB6 := bthen hB5 hb6'
        have zr6 := cell_lt r0
        have zd6 := cell_lt d0
        have hne6 : ¬ w5.heap.size = W.heap.size := Nat.ne_of_gt zr
        have HP6 := Lib.hid (hv6.put2 d0 d1)
        obtain ⟨n6, a6, c6, l6, rfl, -⟩ := hv6
        unfold iv at *
        have HP7 := Lib.hid ((HP6.out (.bool n6) (.slice a6 l6.length c6)).put2 (cell_far2 r0 hne6 n6 a6 l6.length c6) (cell_far2 r1 hne6 n6 a6 l6.length c6) (.bool n6) (.slice a6 l6.length c6))
        clear nc HV5 HP6 hb6 hb5a
        go_wp2
        refine bodyPost_ret (v := .agg #[.bool n6, .slice a6 l6.length c6]) (by simp [results, Tryz.results158, go_sem, *]) rfl ⟨⟨_, rfl, by rw [HIA.out, if_pos hp]; exact HP7.out⟩, ?_⟩
        repeat (first|exact bzR _ _|exact hB6|refine bzD ?_|refine bzN ?_|refine bzS ?_|refine bzA ?_)
      · have hs2 : ((i : Int) + (j : Int)).tmod 2 = 0 := by rw [HTM.out, (Nat.mod_two_eq_zero_or_one _).resolve_right hp]; rfl
        have HP6 := Lib.hid ((HV5.out.put2 r0 r1 (.bool n5) (.slice a5 l5.length c5)).keep (bal (Below.refl _ _) (.cells #[.bool n5, .slice a5 l5.length c5] 50)))
        go_wp2
        refine bodyPost_ret (v := .agg #[.bool n5, .slice a5 l5.length c5]) (by simp [results, Tryz.results158, go_sem, *]) rfl ⟨⟨_, rfl, by rw [HIA.out, if_neg hp]; exact HP6.out⟩, ?_⟩
        repeat (first|exact bzR _ _|exact hB5|refine bzD ?_|refine bzN ?_|refine bzS ?_|refine bzA ?_)
end Go.Proofs.YtbmaffijncapiaaGreatDoor

/- Elimination by fractions against that without: the same pivots; what divides; its bits. -/
set_option linter.unusedVariables false
set_option linter.unusedSimpArgs false
namespace Det
theorem el_div {n m : Nat} {a : Nat → Nat → Int} {s : El} {j : Nat} {q : Nat → Nat} (hj : j < m) (h : Inv n m a s j q) {i : Nat} (hge : s.p.length ≤ i ∧ i ≤ n) (hin : i < n) (hpv : s.g i j ≠ 0) :
    ∀ r c, s.p.length < r → r < n → c < m → ∃ z : Int, swp s.g i s.p.length s.p.length j * swp s.g i s.p.length r c - swp s.g i s.p.length r j * swp s.g i s.p.length s.p.length c = z * s.last := by
  have hk := h.k
  obtain ⟨k, hkk⟩ : ∃ k, s.p.length = k := ⟨_, rfl⟩
  have hgm := h.gm
  have hlast := h.last
  have hze := h.ze
  have hinc := h.inc
  have htop := h.top
  rw [hkk] at hge hk hgm hlast hze hinc htop ⊢
  have pk : ∀ t, t < k → (s.p ++ [j]).getD t 0 = s.p.getD t 0 := fun t ht => by simp [List.getElem?_append, hkk, ht]
  have pj : (s.p ++ [j]).getD k 0 = j := by simp [← hkk]
  -- the numbers once the rows have changed places
  have g1 : ∀ r c, k ≤ r → r < n → c < m → (swp s.g i k r c : Rat) = det (k + 1) (bord a (q2 q i k) s.p k r c) := fun r c h1 h2 h3 => by
    have bq : ∀ r', k ≤ r' → q2 q i k r = q r' → det (k + 1) (bord a (q2 q i k) s.p k r c) = det (k + 1) (bord a q s.p k r' c) := fun r' _ e => det_congr fun x y _ _ => by
      unfold bord
      by_cases hx : x < k
      · rw [if_pos hx]; unfold q2; rw [if_neg (by omega), if_neg (by omega)]
        simp only [hx, if_true]
      · rw [if_neg hx, e]; simp only [hx, if_false]
    by_cases e1 : r = i
    · rw [bq k (Nat.le_refl _) (by unfold q2; rw [if_pos e1]), ← hgm k c (Nat.le_refl _) (by omega) h3]
      unfold swp; rw [if_pos e1]
    · by_cases e2 : r = k
      · rw [bq i hge.1 (by unfold q2; rw [if_neg e1, if_pos e2]), ← hgm i c hge.1 hin h3]
        unfold swp; rw [if_neg e1, if_pos e2]
      · rw [bq r h1 (by unfold q2; rw [if_neg e1, if_neg e2]), ← hgm r c h1 h2 h3]
        unfold swp; rw [if_neg e1, if_neg e2]
  have z1 : ∀ r c, k ≤ r → r < n → c < j → swp s.g i k r c = 0 := fun r c h1 h2 h3 => by
    unfold swp
    split
    · exact hze k c (Nat.le_refl _) (by omega) h3
    · split
      · exact hze i c hge.1 hin h3
      · exact hze r c h1 h2 h3
  have hpv1 : swp s.g i k k j = s.g i j := by unfold swp; split <;> simp_all
  have hlast' : (s.last : Rat) = det k fun r c => (a (q2 q i k r) (s.p.getD c 0) : Rat) := by
    rw [hlast]
    refine det_congr fun x y hx hy => ?_
    unfold q2; rw [if_neg (by omega), if_neg (by omega)]
  -- what divides
  have hdiv : ∀ r c, k < r → r < n → c < m → ∃ z : Int, det (k + 2) (bord a (q2 q i k) (s.p ++ [j]) (k + 1) r c) = z ∧ swp s.g i k k j * swp s.g i k r c - swp s.g i k r j * swp s.g i k k c = z * s.last := fun r c h1 h2 h3 => by
    obtain ⟨z, hz⟩ := det_int (k + 2) fun x t => a (q2 q i k (if x < k + 1 then x else r)) (if t < k + 1 then (s.p ++ [j]).getD t 0 else c)
    have hz' : det (k + 2) (bord a (q2 q i k) (s.p ++ [j]) (k + 1) r c) = z := by rw [← hz]; rfl
    refine ⟨z, hz', ?_⟩
    obtain ⟨T, hT⟩ : ∃ T, bord a (q2 q i k) (s.p ++ [j]) (k + 1) r c = T := ⟨_, rfl⟩
    have tl : det k T = s.last := by
      rw [hlast', ← hT]
      refine det_congr fun x y hx hy => ?_
      unfold bord; rw [if_pos (by omega), if_pos (by omega), pk y hy]
    have sq : ∀ x : Nat, x < k + 1 → (if x < k then x else k) = x := fun x hx => by split <;> omega
    have t1 : det (k + 1) T = swp s.g i k k j := by
      rw [g1 k j (Nat.le_refl _) (by omega) hj, ← hT]
      refine det_congr fun x y hx hy => ?_
      unfold bord
      rw [if_pos (by omega), if_pos hy, sq x hx]
      by_cases hy' : y < k
      · rw [if_pos hy', pk y hy']
      · have : y = k := by omega
        subst this; rw [if_neg (by omega), pj]
    have t2 : det (k + 1) (nr k (nc k T)) = swp s.g i k r c := by
      rw [g1 r c (by omega) h2 h3, ← hT]
      refine det_congr fun x y hx hy => ?_
      unfold nr nc bord
      by_cases hx' : x < k
      · have hx2 : ¬ x = k := by omega
        simp only [hx2, if_false, hx, if_true, hx']
        by_cases hy' : y < k
        · have hy2 : ¬ y = k := by omega
          simp only [hy2, if_false, hy, if_true, hy']
          rw [pk y hy']
        · have : y = k := by omega
          subst this; simp
      · have hx2 : x = k := by omega
        subst hx2
        simp only [if_true, Nat.lt_irrefl, if_false]
        by_cases hy' : y < x
        · have hy2 : ¬ y = x := by omega
          simp only [hy2, if_false, hy, if_true, hy']
          rw [pk y hy']
        · have : y = x := by omega
          subst this; simp
    have t3 : det (k + 1) (nr k T) = swp s.g i k r j := by
      rw [g1 r j (by omega) h2 hj, ← hT]
      refine det_congr fun x y hx hy => ?_
      unfold nr bord
      have hyy : (if y < k + 1 then (s.p ++ [j]).getD y 0 else c) = if y < k then s.p.getD y 0 else j := by
        rw [if_pos hy]
        by_cases hy' : y < k
        · rw [if_pos hy', pk y hy']
        · have : y = k := by omega
          subst this; rw [if_neg (by omega), pj]
      rw [hyy]
      by_cases hx' : x < k
      · have hx2 : ¬ x = k := by omega
        simp only [hx2, if_false, hx, if_true, hx']
      · have hx2 : x = k := by omega
        subst hx2; simp
    have t4 : det (k + 1) (nc k T) = swp s.g i k k c := by
      rw [g1 k c (Nat.le_refl _) (by omega) h3, ← hT]
      refine det_congr fun x y hx hy => ?_
      unfold nc bord
      rw [if_pos (by omega), sq x hx]
      by_cases hy' : y < k
      · have hy2 : ¬ y = k := by omega
        simp only [hy2, if_false, hy, if_true, hy']
        rw [pk y hy']
      · have : y = k := by omega
        subst this; simp
    have hs := sylvester (k := k) (t := T) (by rw [tl]; simpa using h.nz) (by rw [t1, hpv1]; simpa using hpv)
    rw [t1, t2, t3, t4, tl, ← hT, hz'] at hs
    rw [← Rat.intCast_mul, ← Rat.intCast_mul, ← Rat.intCast_mul, ← Rat.intCast_sub] at hs
    have := Rat.intCast_inj.1 hs
    omega
  intro r c h1 h2 h3
  obtain ⟨z, _, he⟩ := hdiv r c h1 h2 h3
  exact ⟨z, he⟩
structure PS where
  l : M
  p : List Nat
def pvStep (n : Nat) (s : PS) (j : Nat) : PS :=
  if frQ s.l j (n - s.p.length) s.p.length = n then s else ⟨clr (swap s.l (frQ s.l j (n - s.p.length) s.p.length) s.p.length) s.p.length j, s.p ++ [j]⟩
def pvR (n : Nat) (a : M) : Nat → PS
  | 0 => ⟨a, []⟩
  | t + 1 => pvStep n (pvR n a t) t
theorem pv_len (n : Nat) (a : M) : ∀ t, (pvR n a t).p.length ≤ n
  | 0 => Nat.zero_le _
  | t + 1 => by
    have ih := pv_len n a t
    show (pvStep n (pvR n a t) t).p.length ≤ n
    obtain ⟨s, hs⟩ : ∃ s, pvR n a t = s := ⟨_, rfl⟩
    rw [hs] at ih ⊢
    have hge := frQ_ge s.l t (n - s.p.length) s.p.length
    unfold pvStep
    split
    · exact ih
    · simp; omega
theorem fr_same {n k : Nat} {g : Nat → Nat → Int} {L : M} {x : Rat} {j : Nat} (hx : x ≠ 0) (h : ∀ r, k ≤ r → r < n → (g r j : Rat) = x * L r j) : ∀ d i, k ≤ i → i + d ≤ n → fr g j d i = frQ L j d i := by
  intro d
  induction d with
  | zero => intro i _ _; rfl
  | succ d ih =>
    intro i h1 h2
    have hi := h i h1 (by omega)
    have hz : g i j = 0 ↔ L i j = 0 := by
      constructor
      · intro e
        rw [e] at hi
        have : x * L i j = 0 := by rw [← hi]; rfl
        rcases Rat.mul_eq_zero.1 this with h | h
        · exact absurd h hx
        · exact h
      · intro e
        rw [e, Rat.mul_zero] at hi
        exact Rat.intCast_inj.1 (hi.trans Rat.intCast_zero.symm)
    unfold fr frQ
    by_cases e : g i j = 0
    · rw [if_pos e, if_pos (hz.1 e)]; exact ih (i + 1) (by omega) (by omega)
    · rw [if_neg e, if_neg (fun h => e (hz.2 h))]
theorem pv_el (n m : Nat) (a : Nat → Nat → Int) : ∀ t, t ≤ m → (pvR n (cst a) t).p = (elR n a t).p ∧ ∀ r c, (elR n a t).p.length ≤ r → r < n → c < m → ((elR n a t).g r c : Rat) = (elR n a t).last * (pvR n (cst a) t).l r c := by
  intro t
  induction t with
  | zero =>
    intro _
    refine ⟨rfl, fun r c _ _ _ => ?_⟩
    show (a r c : Rat) = ((1 : Int) : Rat) * (a r c : Rat)
    rw [Rat.intCast_one, Rat.one_mul]
  | succ t ih =>
    intro ht
    obtain ⟨h1, h2⟩ := ih (by omega)
    obtain ⟨q, hinv⟩ := inv_all n m a t (by omega)
    show (pvStep n (pvR n (cst a) t) t).p = (elStep n (elR n a t) t).p ∧ ∀ r c, (elStep n (elR n a t) t).p.length ≤ r → r < n → c < m → ((elStep n (elR n a t) t).g r c : Rat) = (elStep n (elR n a t) t).last * (pvStep n (pvR n (cst a) t) t).l r c
    obtain ⟨s, hs⟩ : ∃ s, elR n a t = s := ⟨_, rfl⟩
    obtain ⟨u, hu⟩ : ∃ u, pvR n (cst a) t = u := ⟨_, rfl⟩
    rw [hs] at h1 h2 hinv ⊢
    rw [hu] at h1 h2 ⊢
    have hnz : (s.last : Rat) ≠ 0 := fun e => hinv.nz (Rat.intCast_inj.1 (e.trans Rat.intCast_zero.symm))
    have hfr : fr s.g t (n - s.p.length) s.p.length = frQ u.l t (n - s.p.length) s.p.length := fr_same hnz (fun r a b => h2 r t a b (by omega)) _ _ (Nat.le_refl _) (by have := hinv.k; omega)
    have hge := fr_ge s.g t (n - s.p.length) s.p.length
    have hat := fr_at s.g t (n - s.p.length) s.p.length
    unfold pvStep elStep
    rw [h1, ← hfr]
    obtain ⟨i, hi⟩ : ∃ i, fr s.g t (n - s.p.length) s.p.length = i := ⟨_, rfl⟩
    rw [hi] at hge hat ⊢
    by_cases e : i = n
    · rw [if_pos e, if_pos e]; exact ⟨h1, h2⟩
    rw [if_neg e, if_neg e]
    have hk := hinv.k
    have hin : i < n := by omega
    have hp : s.g i t ≠ 0 := hat (by omega)
    refine ⟨rfl, fun r c hr hrn hc => ?_⟩
    dsimp only at hr ⊢
    have hr : s.p.length < r := by simp at hr; omega
    rw [if_pos hr]
    have sw : ∀ r c, s.p.length ≤ r → r < n → c < m → (swp s.g i s.p.length r c : Rat) = s.last * swap u.l i s.p.length r c := fun r c ha hb hc => by
      unfold swp swap upd
      by_cases e1 : r = i
      · by_cases e2 : r = s.p.length
        · rw [if_pos e1, if_pos e2, ← e2, ← e1]; exact h2 r c ha hb hc
        · rw [if_pos e1, if_neg e2, if_pos e1]; exact h2 _ c (Nat.le_refl _) (by omega) hc
      · by_cases e2 : r = s.p.length
        · rw [if_neg e1, if_pos e2, if_pos e2]; exact h2 i c (by omega) hin hc
        · rw [if_neg e1, if_neg e2, if_neg e2, if_neg e1]; exact h2 r c ha hb hc
    obtain ⟨z, hz⟩ := el_div (by omega) hinv ⟨hge.1, by omega⟩ hin hp r c hr hrn hc
    have en : elNew (swp s.g i s.p.length) s.p.length t s.last r c = z := by unfold elNew; rw [hz, Int.mul_ediv_cancel _ hinv.nz]
    rw [en]
    have zq : (z : Rat) * s.last = s.last * swap u.l i s.p.length s.p.length t * (s.last * swap u.l i s.p.length r c) - s.last * swap u.l i s.p.length r t * (s.last * swap u.l i s.p.length s.p.length c) := by
      rw [← sw _ t (Nat.le_refl _) (by omega) (by omega), ← sw r c (by omega) hrn hc, ← sw r t (by omega) hrn (by omega), ← sw _ c (Nat.le_refl _) (by omega) hc, ← Rat.intCast_mul, ← Rat.intCast_mul, ← Rat.intCast_mul, ← Rat.intCast_sub, hz]
    have hpq : swap u.l i s.p.length s.p.length t ≠ 0 := fun e0 => by
      have := sw s.p.length t (Nat.le_refl _) (by omega) (by omega)
      rw [e0, Rat.mul_zero] at this
      have h0 := Rat.intCast_inj.1 (this.trans Rat.intCast_zero.symm)
      unfold swp at h0
      by_cases e1 : s.p.length = i
      · rw [if_pos e1, e1] at h0; exact hp h0
      · rw [if_neg e1, if_pos rfl] at h0; exact hp h0
    rw [sw _ t (Nat.le_refl _) (by omega) (by omega)]
    unfold clr
    rw [if_neg (by omega)]
    have hl : (s.last : Rat) ≠ 0 := hnz
    generalize swap u.l i s.p.length s.p.length t = p at *
    generalize swap u.l i s.p.length r c = x at *
    generalize swap u.l i s.p.length r t = y at *
    generalize swap u.l i s.p.length s.p.length c = v at *
    generalize (s.last : Rat) = w at *
    have h3 : (z : Rat) = w * (p * x - y * v) := by
      have h4 : (z : Rat) * w = w * (p * x - y * v) * w := by rw [zq]; grind
      have h5 : ((z : Rat) - w * (p * x - y * v)) * w = 0 := by grind
      rcases Rat.mul_eq_zero.1 h5 with h | h
      · grind
      · exact absurd h hl
    rw [h3]
    grind
end Det

/- Elimination by fractions: bits; the determinant that comes out. -/
namespace Go.Proofs.YtbmaffijncapiaaGreatDoor
open Num
set_option linter.unusedVariables false
set_option linter.unusedSimpArgs false
def kq (K t : Nat) : Nat := (K + 1) * 4 ^ t - 1
theorem kq_zero (K : Nat) : kq K 0 = K := by unfold kq; simp
theorem kq_pos (K t : Nat) : 1 ≤ (K + 1) * 4 ^ t := Nat.mul_pos (by omega) (Nat.pow_pos (by omega))
theorem kq_succ (K t : Nat) : kq K (t + 1) = 4 * kq K t + 3 := by
  have := kq_pos K t
  unfold kq
  rw [Nat.pow_succ, ← Nat.mul_assoc]
  generalize (K + 1) * 4 ^ t = x at *
  omega
theorem kq_mono (K : Nat) {s t : Nat} (h : s ≤ t) : kq K s ≤ kq K t := by
  induction t with
  | zero => have : s = 0 := by omega
            subst this; exact Nat.le_refl _
  | succ t ih =>
    by_cases e : s = t + 1
    · subst e; exact Nat.le_refl _
    · have := ih (by omega); rw [kq_succ]; omega
def BdR (n m K : Nat) (l : Det.M) : Prop := ∀ r c, r < n → c < m → BdQ K (l r c)
theorem BdR.mono {n m K L : Nat} {l : Det.M} (h : BdR n m K l) (hk : K ≤ L) : BdR n m L l := fun r c hr hc => (h r c hr hc).mono hk
theorem BdR.swap {n m K i k : Nat} {l : Det.M} (h : BdR n m K l) (hi : i < n) (hk : k < n) : BdR n m K (Det.swap l i k) := fun r c hr hc => by
  unfold Det.swap Det.upd
  split
  · exact h i c hi hc
  · split
    · exact h k c hk hc
    · exact h r c hr hc
theorem BdR.clr {n m K k j : Nat} {l : Det.M} (h : BdR n m K l) (hk : k < n) (hj : j < m) (hp : l k j ≠ 0) : BdR n m (4 * K + 3) (Det.clr l k j) := fun r c hr hc => by
  unfold Det.clr
  have h1 := (h k c hk hc).div (h k j hk hj) hp
  split
  · exact h1.mono (by omega)
  · exact ((h r c hr hc).sub ((h r j hr hj).mul h1)).mono (by omega)
theorem pv_bd {n m K : Nat} {a : Det.M} (h : BdR n m K a) : ∀ t, t ≤ m → BdR n m (kq K t) (Det.pvR n a t).l
  | 0, _ => by rw [kq_zero]; exact h
  | t + 1, ht => by
    have ih := pv_bd h t (by omega)
    have hl := Det.pv_len n a t
    show BdR n m (kq K (t + 1)) (Det.pvStep n (Det.pvR n a t) t).l
    obtain ⟨s, hs⟩ : ∃ s, Det.pvR n a t = s := ⟨_, rfl⟩
    rw [hs] at ih hl ⊢
    have hge := Det.frQ_ge s.l t (n - s.p.length) s.p.length
    have hat := Det.frQ_at s.l t (n - s.p.length) s.p.length
    unfold Det.pvStep
    by_cases e : Det.frQ s.l t (n - s.p.length) s.p.length = n
    · rw [if_pos e]; exact ih.mono (kq_mono K (by omega))
    · rw [if_neg e, kq_succ]
      refine (ih.swap (by omega) (by omega)).clr (by omega) (by omega) ?_
      rw [Det.swap_piv]
      exact hat (by omega)
theorem jd_bd {n m K : Nat} {a : Det.M} (h : BdR n m K a) (hm : n ≤ m) (hK : 1 ≤ K) : ∀ t, t ≤ n → ∀ s, Det.jdR n a t = some s → BdR n m (kq K t) s.l ∧ BdQ (kq K t + 1) s.d
  | 0, _, s, hs => by
    cases hs
    exact ⟨by rw [kq_zero]; exact h, BdQ.whole (z := 1) (by unfold Bd; exact Nat.one_lt_two_pow (by omega)) (by omega)⟩
  | t + 1, ht, s, hs => by
    unfold Det.jdR at hs
    obtain ⟨u, h1, h2⟩ := Option.bind_eq_some_iff.1 hs
    obtain ⟨ih1, ih2⟩ := jd_bd h hm hK t (by omega) u h1
    have hge := Det.frQ_ge u.l t (n - t) t
    have hat := Det.frQ_at u.l t (n - t) t
    by_cases e : Det.frQ u.l t (n - t) t = n
    · rw [if_pos e] at h2; cases h2
    rw [if_neg e] at h2
    cases h2
    obtain ⟨i, hi⟩ : ∃ i, Det.frQ u.l t (n - t) t = i := ⟨_, rfl⟩
    rw [hi] at hge hat e ⊢
    have hsw := ih1.swap (i := i) (k := t) (by omega) (by omega)
    have hp : Det.swap u.l i t t t ≠ 0 := by rw [Det.swap_piv]; exact hat (by omega)
    refine ⟨by rw [kq_succ]; exact hsw.clr (by omega) (by omega) hp, ?_⟩
    show BdQ _ ((if i = t then u.d else - u.d) * Det.swap u.l i t t t)
    have hd : BdQ (kq K t + 1) (if i = t then u.d else - u.d) := by split; exact ih2; exact ih2.neg
    exact (hd.mul (hsw t t (by omega) (by omega))).mono (by rw [kq_succ]; omega)
end Go.Proofs.YtbmaffijncapiaaGreatDoor

