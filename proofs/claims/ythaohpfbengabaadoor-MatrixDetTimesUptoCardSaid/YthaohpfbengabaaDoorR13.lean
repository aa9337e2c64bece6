/- Texts of this seat, laid together: MxL, MxM, MxN, TxtL, TxtI, TxtJ. Each opens with its own remark, which says what it proves, and under which conditions. -/
import Derived.Test.YthaohpfbengabaaDoorR12
import Derived.Test.YthaohpfbengabaaDoorR11
import Derived.Test.YthaohpfbengabaaDoorR01
import Derived.Test.YthaohpfbengabaaDoorR10
import Derived.Test.YthaohpfbengabaaDoorR04
import Derived.Deep.DeepFit
import Derived.Test.YthaohpfbengabaaDoorR07
import Derived.Laws.RangeString
import Derived.Lib.OthersKept
import Derived.Maps.AppendAt
set_option linter.unusedVariables false
set_option linter.unusedSimpArgs false
/- matrix: Adjugate's function value. -/
namespace Go.Proofs.YthaohpfbengabaaDoor
open Num
open Go.ChangeShapes Go.WideShapes Go.ChangeAt Go.RowKit
set_option linter.unusedVariables false
set_option linter.unusedSimpArgs false
attribute [local go_sem ↓] Go.wp_at_zero Go.wp_at_succ
/-- what is left of the first rows, without a row and a column -/
def leftG (g : Grid) (j i k : Nat) : Grid := ((g.take k).eraseIdx j).map (·.eraseIdx i)
theorem left_skip {g : Grid} {j i k : Nat} (hk : k < g.length) (h : k = j) : leftG g j i (k + 1) = leftG g j i k := by
  subst h
  unfold leftG
  rw [take_getD [] hk, List.eraseIdx_append_of_length_le (by simp; omega), List.eraseIdx_of_length_le (l := g.take k) (by simp; omega)]
  simp [Nat.min_eq_left (Nat.le_of_lt hk)]
theorem left_next {g : Grid} {j i k : Nat} (hk : k < g.length) (h : k ≠ j) : leftG g j i (k + 1) = leftG g j i k ++ [(g.getD k []).eraseIdx i] := by
  unfold leftG
  rw [take_getD [] hk]
  by_cases e : j < k
  · rw [List.eraseIdx_append_of_lt_length (by simp; omega)]; simp
  · rw [List.eraseIdx_of_length_le (l := g.take k) (by simp; omega), List.eraseIdx_of_length_le (by simp; omega)]; simp
theorem erase_getD {l : List Int} {i k : Nat} : (l.eraseIdx i).getD k 0 = l.getD (Det.skip i k) 0 := by
  unfold Det.skip
  simp only [List.getD_eq_getElem?_getD, List.getElem?_eraseIdx]
  split <;> rfl
theorem left_len (g : Grid) (j i k : Nat) : (leftG g j i k).length ≤ k := by
  unfold leftG
  rw [List.length_map]
  exact Nat.le_trans (List.length_eraseIdx_le _ _) (by rw [List.length_take]; omega)
theorem left_all {g : Grid} {j i : Nat} (hj : j < g.length) : (leftG g j i g.length).length = g.length - 1 := by
  unfold leftG; rw [List.take_length, List.length_map, List.length_eraseIdx_of_lt hj]
theorem left_row {g : Grid} {j i r : Nat} (hj : j < g.length) (hr : r < g.length - 1) : (leftG g j i g.length).getD r [] = (g.getD (Det.skip j r) []).eraseIdx i := by
  unfold leftG Det.skip
  rw [List.take_length, List.getD_eq_getElem?_getD, List.getElem?_map, List.getElem?_eraseIdx, List.getD_eq_getElem?_getD]
  split
  · rw [List.getElem?_eq_getElem (by omega)]; rfl
  · rw [List.getElem?_eq_getElem (by omega)]; rfl
theorem left_gat {g : Grid} {j i r c : Nat} (hj : j < g.length) (hr : r < g.length - 1) : gat (leftG g j i g.length) r c = gat g (Det.skip j r) (Det.skip i c) := by
  unfold gat; rw [left_row hj hr, erase_getD]
theorem left_rct {g : Grid} {j i : Nat} (hj : j < g.length) (hi : i < g.length) (h : Rct g g.length) : Rct (leftG g j i g.length) (leftG g j i g.length).length := by
  intro r hr
  rw [left_all hj] at hr ⊢
  rw [left_row hj hr, List.length_eraseIdx_of_lt]
  · rw [h _ (by unfold Det.skip; split <;> omega)]
  · rw [h _ (by unfold Det.skip; split <;> omega)]; exact hi
theorem left_bd {g : Grid} {j i K : Nat} (hj : j < g.length) (h : BdM K g) : BdM K (leftG g j i g.length) := by
  intro r c
  by_cases e : r < g.length - 1
  · rw [left_gat hj e]; exact h _ _
  · unfold gat
    have h0 : (leftG g j i g.length).getD r [] = [] := by rw [List.getD_eq_getElem?_getD, List.getElem?_eq_none (by rw [left_all hj]; omega)]; rfl
    rw [h0]
    exact bd_zero
theorem left_det {g : Grid} {j i : Nat} (hj : j < g.length) : Det.detE (leftG g j i g.length).length (gat (leftG g j i g.length)) = Det.detE (g.length - 1) (fun r c => gat g (Det.skip j r) (Det.skip i c)) := by
  rw [left_all hj]
  exact Det.detE_congr fun r c hr _ => left_gat hj hr
/-- two rows in a new block -/
theorem isL_two {w : World} {b : Nat} {u1 u2 : Value} {l1 l2 : List Int} {c : Nat} (h1 : w.cell? ⟨b, 0, none⟩ = some u1) (h2 : w.cell? ⟨b, 1, none⟩ = some u2) (hc : 2 ≤ c) (hc2 : c ≤ maxLen) (ht : typOf w b = some 40) (p1 : PSl w u1 l1) (p2 : PSl w u2 l2) :
    IsL 40 PSl 0 w (.slice (some ⟨b, 0, none⟩) 2 c) [l1, l2] := by
  refine ⟨_, c, rfl, hc, hc2, .inr ⟨b, 0, rfl, Nat.zero_le _, ht, fun k hk => ?_⟩⟩
  match k, hk with
  | 0, _ => exact ⟨u1, by simpa using h1, p1⟩
  | 1, _ => exact ⟨u2, by simpa using h2, p2⟩
theorem IntsF.shift {w : World} {b off n d : Nat} {l : List Int} (h : IntsF IsInt w b off n (fun k => l.getD k 0)) {m : Nat} (hm : d + m ≤ n) : IntsF IsInt w b (off + d * 2) m (fun k => (l.drop d).getD k 0) := fun k hk => by
  obtain ⟨nb, a, len, c, k1, k2, k3⟩ := h (d + k) (by omega)
  refine ⟨nb, a, len, c, by rw [show off + d * 2 + k * 2 = off + (d + k) * 2 by omega]; exact k1, by rw [show off + d * 2 + k * 2 + 1 = off + (d + k) * 2 + 1 by omega]; exact k2, ?_⟩
  show IsInt _ _ ((l.drop d).getD k 0)
  rw [List.getD_eq_getElem?_getD, List.getElem?_drop, ← List.getD_eq_getElem?_getD]; exact k3
theorem IntsF.head {w : World} {b off n m : Nat} {l : List Int} (h : IntsF IsInt w b off n (fun k => l.getD k 0)) (hm : m ≤ n) : IntsF IsInt w b off m (fun k => (l.take m).getD k 0) := fun k hk => by
  obtain ⟨nb, a, len, c, k1, k2, k3⟩ := h k (by omega)
  refine ⟨nb, a, len, c, k1, k2, ?_⟩
  show IsInt _ _ ((l.take m).getD k 0)
  rw [List.getD_eq_getElem?_getD, List.getElem?_take_of_lt hk, ← List.getD_eq_getElem?_getD]; exact k3
theorem prow_block {base : Nat} {w : World} {v : Value} {l : List Int} (h : PRow base w v l) (hl : 0 < l.length) : ∃ b off c, v = .slice (some ⟨b, off, none⟩) l.length c ∧ l.length ≤ c ∧ c ≤ maxLen ∧ typOf w b = some 33 ∧ IntsF IsInt w b off l.length (fun k => l.getD k 0) := by
  obtain ⟨a, c, e, hlc, hcm, h⟩ := h
  rcases h with rfl | ⟨b, off, rfl, _, ht, hi⟩
  · simp at hl
  · exact ⟨b, off, c, e, hlc, hcm, ht, hi⟩
theorem detE_bd {g : Grid} {K : Nat} (h1 : 1 ≤ K) (hb : BdM K g) {n : Nat} (hn : g.length = n) : Bd (kb K n) (Det.detE g.length (gat g)) := by
  subst hn
  unfold Det.detE
  split
  · exact bd_zero
  · have h2 := (elR_bd (n := g.length) (m := g.length) (K := K) h1 (fun r c _ _ => hb r c) g.length (Nat.le_refl _)).2
    rcases elR_sgn g.length (gat g) g.length with e | e <;> rw [e]
    · rw [Int.mul_one]; exact h2
    · unfold Bd; rw [Int.mul_neg, Int.mul_one, Int.natAbs_neg]; exact h2
theorem psl_head {W : World} {rb ro n rc i : Nat} {row : List Int} (ht : typOf W rb = some 33) (h : IntsF IsInt W rb ro n (fun k => row.getD k 0)) (hl : row.length = n) (hi : i ≤ n) : PSl W (.slice (some ⟨rb, ro, none⟩) i rc) (row.take i) := by
  have e : (row.take i).length = i := by rw [List.length_take]; omega
  exact ⟨rb, ro, rc, by rw [e], ht, by rw [e]; exact h.head hi⟩
theorem psl_tail {W : World} {rb ro n rc i : Nat} {row : List Int} (ht : typOf W rb = some 33) (h : IntsF IsInt W rb ro n (fun k => row.getD k 0)) (hl : row.length = n) (hi : i < n) : PSl W (.slice (some ⟨rb, ro + (i + 1) * 2, none⟩) (n - (i + 1)) rc) (row.drop (i + 1)) := by
  have e : (row.drop (i + 1)).length = n - (i + 1) := by rw [List.length_drop, hl]
  exact ⟨rb, ro + (i + 1) * 2, rc, by rw [e], ht, by rw [e]; exact h.shift (by omega)⟩
theorem psl_none {W : World} {rb ro n rc i : Nat} {row : List Int} (ht : typOf W rb = some 33) (hl : row.length = n) (hi : n ≤ i + 1) : PSl W (.slice (some ⟨rb, ro, none⟩) (n - (i + 1)) rc) (row.drop (i + 1)) := by
  have e : (row.drop (i + 1)).length = n - (i + 1) := by rw [List.length_drop, hl]
  exact ⟨rb, ro, rc, by rw [e], ht, fun k hk => by rw [e] at hk; omega⟩
theorem erase_flat {n i : Nat} {row : List Int} (hl : row.length = n) (hi : i < n) : [row.take i, row.drop (i + 1)].flatten = row.eraseIdx i ∧ [row.take i, row.drop (i + 1)].flatten.length = n - 1 := by
  have e : [row.take i, row.drop (i + 1)].flatten = row.eraseIdx i := by rw [List.eraseIdx_eq_take_drop_succ]; simp
  exact ⟨e, by rw [e, List.length_eraseIdx_of_lt (by omega), hl]⟩
theorem two_le {k j n : Nat} (hk : k < n) (hj : j < n) (e : k ≠ j) : 2 ≤ n := by omega
theorem len_bd {L k n : Nat} (h : L ≤ k) (h2 : k ≤ n) (h3 : n ≤ 65536) : (L + 1) * 24 ≤ 140737488355328 := by omega
theorem len_bd2 {L k n : Nat} (h : L ≤ k) (h2 : k ≤ n) (h3 : n ≤ 65536) : L + 1 ≤ maxLen := by unfold maxLen; omega
theorem wr_succ {i n : Nat} (h : i < n) (hn : n ≤ 65536) : wrap64 ((i : Int) + 1) = (i : Int) + 1 ∧ IntKind.i64.wrap ((i : Int) + 1) = (i : Int) + 1 ∧ ((i : Int) + 1).toNat = i + 1 ∧ 0 ≤ (i : Int) + 1 ∧ (i : Int) + 1 ≤ (n : Int) := by
  have h1 : wrap64 ((i : Int) + 1) = (i : Int) + 1 := by unfold wrap64; omega
  exact ⟨h1, by rw [IntKind.wrap_i64]; omega, by omega, by omega, by omega⟩
theorem wr_add {i j n : Nat} (h : i < n) (h2 : j < n) (hn : n ≤ 65536) : wrap64 ((i : Int) + j) = (i : Int) + j ∧ IntKind.i64.wrap ((i : Int) + j) = (i : Int) + j := by
  have h1 : wrap64 ((i : Int) + j) = (i : Int) + j := by unfold wrap64; omega
  exact ⟨h1, by rw [IntKind.wrap_i64]; omega⟩
theorem tmod_two (i j : Nat) : ((i : Int) + (j : Int)).tmod 2 = (((i + j) % 2 : Nat) : Int) := by
  rw [Int.tmod_eq_emod_of_nonneg (by omega)]; omega
set_option maxRecDepth 100000 in
set_option maxHeartbeats 8000000 in
theorem adj1_c (mb : Nat) (g : Grid) (K : Nat) (w : World) (hm : BoxM mb w g) (hr : Rct g g.length) (hn : g.length ≤ 65536) (hK1 : 1 ≤ K) (hbd : BdM K g) (hK : kb K (g.length - 1) ≤ 4294967296) :
    FnF (Det.iadj g.length (gat g)) g.length g.length 87 #[.pointer (some ⟨mb, 0, none⟩)] w := by
  intro W i j hi hj hW
  show Calls Tryd.prog 87 #[.int .i64 (i : Nat), .int .i64 (j : Nat), .pointer (some ⟨mb, 0, none⟩)] W _
  have hM := hm.keep hW
  have HM := Lib.hid hM
  have HR := Lib.hid hr
  have HBD := Lib.hid hbd
  obtain ⟨gc, gb, go, -, -, m0, -, -⟩ := hM.row (show 0 < g.length by omega)
  have zm := cell_lt m0
  have hB := Below.refl W.heap.size W
  clear hm hr hbd hW
  obtain ⟨n, hnn⟩ : ∃ n, g.length = n := ⟨_, rfl⟩
  have HN := Lib.hid hnn
  have HDT := Lib.hid (left_det (i := i) hj)
  have HLR := Lib.hid (left_rct hj hi HR.out)
  have HLB := Lib.hid (left_bd (i := i) hj HBD.out)
  have HLA := Lib.hid (left_all (i := i) hj)
  rw [hnn] at m0 hi hj hn hK HDT HLR HLB HLA ⊢
  clear hnn
  go_enter Tryd.func87, Tryd.ntmps87
  go_wp2
  refine wp_name fun w1 hW1 => ?_
  have hB1 : Below W.heap.size W w1 := by rw [hW1]; repeat (first | exact Below.refl _ _ | exact hB | refine Below.drew ?_ | refine below_drewN ?_ _ | refine bset ?_ (by simp <;> omega) _ | refine bal ?_ _)
  have HR1 := Lib.hid (show w1.cell? ⟨W.heap.size, 0, none⟩ = some (.bool false) ∧ w1.cell? ⟨W.heap.size, 1, none⟩ = some (.slice none 0 0) ∧ w1.frozen? ⟨W.heap.size, 0, none⟩ = false ∧ w1.frozen? ⟨W.heap.size, 1, none⟩ = false from by rw [hW1]; simp [go_sem])
  have HM1 := Lib.hid (HM.out.keep hB1)
  have HM0 := Lib.hid (bkeep hB1 m0)
  clear hW1
  have m0 := HM0.out
  have zm := cell_lt m0
  go_wp2
  have hb11 := Below.refl w1.heap.size w1
  go_loopw [6, 13] (fun v x wr => ∃ k : Nat, k ≤ n ∧ x = .int .i64 k ∧ Hid (OwnL 40 (PRow w1.heap.size) w1 wr v (leftG g j i k))) (fun _ x _ => n - (intOf x).toNat)
  case atStart => exact ⟨0, Nat.zero_le _, rfl, Lib.hid (OwnL.nil _ _ hb11)⟩
  case round =>
    obtain ⟨k, hk, rfl, hO⟩ := hrel
    have hBr := hO.out.bel
    by_cases hlt : k < n
    · have hltI : (k : Int) < (n : Int) := by omega
      have hkg : k < g.length := by rw [HN.out]; exact hlt
      obtain ⟨c2, gb2, go2, ra, rc, m2, hu, hp⟩ := (HM1.out.keep hBr).row hkg
      rw [HN.out] at m2
      obtain ⟨rfl, rfl, rfl⟩ : gb = gb2 ∧ go = go2 ∧ gc = c2 := by
        have h1 := Option.some.inj ((bkeep hBr HM0.out).symm.trans m2)
        have h2 := Value.slice.inj h1
        simp at h2
        exact ⟨h2.1.1, h2.1.2, h2.2⟩
      have m0 := bkeep hBr HM0.out
      clear m2
      have hrl := HR.out k hkg
      rw [HN.out] at hrl
      by_cases e : k = j
      · have eI : ((k : Int) != (j : Int)) = false := by simp [e]
        have HS := Lib.hid (left_skip (i := i) hkg e)
        have zm := cell_lt m0
        have zu := cell_lt hu
        clear hp hrl e
        go_wp2
        exact ⟨⟨k + 1, by omega, by go_num, Lib.hid (by rw [HS.out]; exact hO.out)⟩, by simp [intOf]; omega⟩
      · have eI : ((k : Int) != (j : Int)) = true := by simp; omega
        have HS := Lib.hid (left_next (i := i) hkg e)
        have eN := e
        obtain ⟨rb, ro, rc', he, hlc, hcm, ht, hI⟩ := prow_block hp (by rw [hrl]; omega)
        obtain ⟨rfl, -, rfl⟩ := Value.slice.inj he
        rw [hrl] at hu hI hlc
        obtain ⟨row, hrow⟩ : ∃ row, g.getD k [] = row := ⟨_, rfl⟩
        rw [hrow] at HS hI hrl
        have HI := Lib.hid (And.intro ht hI)
        have HRL := Lib.hid hrl
        have zm := cell_lt m0
        have zu := cell_lt hu
        have hiI : (i : Int) ≤ (rc : Int) := by omega
        obtain ⟨hw0, hw1, hw2, hw3, hw4⟩ := wr_succ hi hn
        obtain ⟨hv0, hv1, -, -, -⟩ := wr_succ hlt hn
        have hn2 : 2 ≤ n := two_le hlt hj eN
        have hN1 : 0 < n - 1 := Nat.sub_pos_of_lt hn2
        have hN2 : n - 1 ≤ 1099511627776 := Nat.le_trans (Nat.sub_le _ _) (Nat.le_trans hn (by decide))
        have HP1 := Lib.hid (fun W (q : Below wr.heap.size wr W) (c : Nat) => psl_head (rc := c) (typ_keep HI.out.1 q) (HI.out.2.keep lims_int q) HRL.out (Nat.le_of_lt hi))
        have HP2 := Lib.hid (fun W (q : Below wr.heap.size wr W) (_ : rc ≠ i + 1) => psl_tail (rc := rc - (i + 1)) (typ_keep HI.out.1 q) (HI.out.2.keep lims_int q) HRL.out hi)
        have HP3 := Lib.hid (fun W (q : Below wr.heap.size wr W) (e : rc = i + 1) (c : Nat) => psl_none (ro := ro) (rc := c) (typ_keep HI.out.1 q) HRL.out (show n ≤ i + 1 from e ▸ hlc))
        have HFL := Lib.hid (erase_flat HRL.out hi)
        clear he hp hI ht hrow hrl e
        obtain ⟨la, lc, hlv⟩ := hO.out.ex
        obtain ⟨LL, hLL⟩ : ∃ l, (leftG g j i k).length = l := ⟨_, rfl⟩
        rw [hLL] at hlv
        subst hlv
        have HLL := Lib.hid hLL
        clear hLL
        have hBw := Below.refl wr.heap.size wr
        have hLLk := left_len g j i k
        rw [HLL.out] at hLLk
        have hA1 : (LL + 1) * 24 ≤ 140737488355328 := len_bd hLLk hk hn
        have hA2 : LL + 1 ≤ maxLen := len_bd2 hLLk hk hn
        clear eN
        have cc := fun W u (h : IsL 40 PSl 0 W u [row.take i, row.drop (i + 1)]) => concat_c u [row.take i, row.drop (i + 1)] W h (by rw [HFL.out.2]; exact hN1) (by rw [HFL.out.2]; exact hN2) (by simp)
        rw [HFL.out.1] at cc
        have HO0 := Lib.hid hO.out
        clear hO
        by_cases hrc : rc = i + 1
        · have hiJ : (i : Int) ≤ ((i + 1 : Nat) : Int) := Int.ofNat_le.2 (Nat.le_succ i)
          have hiK : (i : Int) ≤ (i : Int) + 1 := Int.le_add_one (Int.le_refl _)
          go_wp2
          go_region_held3 (fun W => True)
            (first | trivial | fail)
            (first
            | (refine stepL elRow (prs_prow _) (by decide) (by rfl) (by rfl) (HO5.out.below (prs_prow _) (bal (Below.refl _ _) _)) ((prs_prow _).kp HR5.out (Kp.of_below _ (bal (Below.refl _ _) _))) (by rfl) (by rfl) (cell_new rfl rfl) (by rw [HLL.out]; exact hA1) (by rw [HLL.out]; exact hA2) ?_; intro v' w8 hO8 hk8; have HO8 := Lib.hid hO8; clear hO8 hk8)
            | (go_at_call 88; refine (cc _ _ (isL_two ?_ ?_ (by decide) (by unfold maxLen; decide) ?_ (HP1.out _ ?_ (i + 1)) (HP3.out _ ?_ hrc 0))).mono ?_; (first | exact cell_drew (cell_new rfl rfl) | exact cell_new rfl rfl); (first | exact cell_drew (cell_new rfl rfl) | exact cell_new rfl rfl); (exact typ_fresh rfl); (repeat (first | exact Below.refl _ _ | exact hBw | refine Below.drew ?_ | refine below_drewN ?_ _ | refine bset ?_ (by simp <;> omega) _ | refine bal ?_ _)); (repeat (first | exact Below.refl _ _ | exact hBw | refine Below.drew ?_ | refine below_drewN ?_ _ | refine bset ?_ (by simp <;> omega) _ | refine bal ?_ _)); rintro e w5 ⟨⟨v5, rfl, hr5⟩, hb5⟩; have hB5 : Below wr.heap.size wr w5 := bthen (by repeat (first | exact Below.refl _ _ | exact hBw | refine Below.drew ?_ | refine below_drewN ?_ _ | refine bset ?_ (by simp <;> omega) _ | refine bal ?_ _)) hb5; have HR5 := Lib.hid (show PRow w1.heap.size w5 v5 (row.eraseIdx i) from hr5.row.rebase (show w1.heap.size ≤ _ from Nat.le_trans hBr.size (bal (Below.refl wr.heap.size wr) _).size)); have HO5 := Lib.hid (HO0.out.below (prs_prow _) hB5); obtain ⟨a5, c5, rfl⟩ := hr5.ex; clear hr5 hb5)
            | fail)
          all_goals
            rw [← HS.out] at HO8
            go_wp2
            exact ⟨⟨k + 1, hlt, by go_num, HO8⟩, meas hlt (by go_num) rfl⟩
        ·
          go_wp2
          go_region_held3 (fun W => True)
            (first | trivial | fail)
            (first
            | (refine stepL elRow (prs_prow _) (by decide) (by rfl) (by rfl) (HO5.out.below (prs_prow _) (bal (Below.refl _ _) _)) ((prs_prow _).kp HR5.out (Kp.of_below _ (bal (Below.refl _ _) _))) (by rfl) (by rfl) (cell_new rfl rfl) (by rw [HLL.out]; exact hA1) (by rw [HLL.out]; exact hA2) ?_; intro v' w8 hO8 hk8; have HO8 := Lib.hid hO8; clear hO8 hk8)
            | (go_at_call 88; refine (cc _ _ (isL_two ?_ ?_ (by decide) (by unfold maxLen; decide) ?_ (HP1.out _ ?_ rc) (HP2.out _ ?_ hrc))).mono ?_; (first | exact cell_drew (cell_new rfl rfl) | exact cell_new rfl rfl); (first | exact cell_drew (cell_new rfl rfl) | exact cell_new rfl rfl); (exact typ_fresh rfl); (repeat (first | exact Below.refl _ _ | exact hBw | refine Below.drew ?_ | refine below_drewN ?_ _ | refine bset ?_ (by simp <;> omega) _ | refine bal ?_ _)); (repeat (first | exact Below.refl _ _ | exact hBw | refine Below.drew ?_ | refine below_drewN ?_ _ | refine bset ?_ (by simp <;> omega) _ | refine bal ?_ _)); rintro e w5 ⟨⟨v5, rfl, hr5⟩, hb5⟩; have hB5 : Below wr.heap.size wr w5 := bthen (by repeat (first | exact Below.refl _ _ | exact hBw | refine Below.drew ?_ | refine below_drewN ?_ _ | refine bset ?_ (by simp <;> omega) _ | refine bal ?_ _)) hb5; have HR5 := Lib.hid (show PRow w1.heap.size w5 v5 (row.eraseIdx i) from hr5.row.rebase (show w1.heap.size ≤ _ from Nat.le_trans hBr.size (bal (Below.refl wr.heap.size wr) _).size)); have HO5 := Lib.hid (HO0.out.below (prs_prow _) hB5); obtain ⟨a5, c5, rfl⟩ := hr5.ex; clear hr5 hb5)
            | fail)
          all_goals
            rw [← HS.out] at HO8
            go_wp2
            exact ⟨⟨k + 1, hlt, by go_num, HO8⟩, meas hlt (by go_num) rfl⟩
    · obtain rfl : k = n := Nat.le_antisymm hk (Nat.le_of_not_lt hlt)
      have hltI : ¬ (k : Int) < (k : Int) := Int.lt_irrefl _
      obtain ⟨la, lc, hlv⟩ := hO.out.ex
      have HIL : Hid (IsL 40 (PRow 0) 0 wr _ (leftG g j i k)) := Lib.hid ((hO.out.isL.mono fun u x h => h.rebase (Nat.zero_le _)).rebase (Nat.zero_le _))
      subst hlv
      have dc := fun W (q : Below wr.heap.size wr W) => det_c _ (leftG g j i k) K W (HIL.out.keep (prs_prow 0) q) HLR.out (by rw [HLA.out]; exact Nat.le_trans (Nat.sub_le _ _) (Nat.le_trans hn (by decide))) hK1 HLB.out (by rw [HLA.out]; exact hK)
      rw [HDT.out] at dc
      obtain ⟨d, hd⟩ : ∃ d, Det.detE (k - 1) (fun r c => gat g (Det.skip j r) (Det.skip i c)) = d := ⟨_, rfl⟩
      have HDB : Hid (Bd (kb K (k - 1)) d) := Lib.hid (by
        rw [← hd, ← HDT.out]
        exact detE_bd hK1 HLB.out (by rw [HLA.out]))
      have HIA := Lib.hid (show Det.iadj k (gat g) i j = if (i + j) % 2 = 1 then -d else d from by unfold Det.iadj; rw [hd])
      rw [hd] at dc
      obtain ⟨LL, hLL⟩ : ∃ l, (leftG g j i k).length = l := ⟨_, rfl⟩
      rw [hLL] at dc ⊢
      have r0f := bkeepf hBr HR1.out.1 HR1.out.2.2.1
      have r1f := bkeepf hBr HR1.out.2.1 HR1.out.2.2.2
      have r0 := bkeep hBr HR1.out.1
      have r1 := bkeep hBr HR1.out.2.1
      have hBW := bthen hB1 hBr
      have hBw := Below.refl wr.heap.size wr
      have zr := cell_lt r0
      clear hO HIL hd hLL
      go_wp2_with fail
      refine (dc _ (by repeat (first | exact Below.refl _ _ | exact hBw | refine Below.drew ?_ | refine below_drewN ?_ _ | refine bset ?_ (by simp <;> omega) _ | refine bal ?_ _))).mono ?_
      rintro e w5 ⟨⟨v5, rfl, hv5⟩, hb5⟩
      have hb5' : Below wr.heap.size wr w5 := bthen (by repeat (first | exact Below.refl _ _ | exact hBw | refine Below.drew ?_ | refine below_drewN ?_ _ | refine bset ?_ (by simp <;> omega) _ | refine bal ?_ _)) hb5
      have HV5 := Lib.hid hv5
      obtain ⟨n5, a5, c5, l5, rfl, -⟩ := hv5
      unfold iv at *
      replace r0f := bkeepf hb5' r0 r0f
      replace r1f := bkeepf hb5' r1 r1f
      replace r0 := bkeep hb5' r0
      replace r1 := bkeep hb5' r1
      replace zr := cell_lt r0
      have hB5 := bthen hBW hb5'
      obtain ⟨hs1', hs1⟩ := wr_add hi hj hn
      have HTM := Lib.hid (tmod_two i j)
      clear dc hb5 hBw
      by_cases hp : (i + j) % 2 = 1
      · have hs2 : ((i : Int) + (j : Int)).tmod 2 = 1 := by rw [HTM.out, hp]; rfl
        have nc := fun W (q : Below w5.heap.size w5 W) => neg_c _ d W (HV5.out.keep q)
        have hBw5 := Below.refl w5.heap.size w5
        go_wp2_with fail
        refine (nc _ (by repeat (first | exact Below.refl _ _ | exact hBw5 | refine Below.drew ?_ | refine below_drewN ?_ _ | refine bset ?_ (by simp <;> omega) _ | refine bal ?_ _))).mono ?_
        rintro e w6 ⟨⟨v6, rfl, hv6⟩, hb6⟩
        have hb5a : Below w5.heap.size w5 (w5.alloc (.cells #[.bool n5, .slice a5 l5.length c5] 33)) := bal (Below.refl _ _) _
        have d0 := bkeep hb6 (show (w5.alloc (.cells #[.bool n5, .slice a5 l5.length c5] 33)).cell? ⟨w5.heap.size, 0, none⟩ = some (.bool n5) from cell_new rfl rfl)
        have d1 := bkeep hb6 (show (w5.alloc (.cells #[.bool n5, .slice a5 l5.length c5] 33)).cell? ⟨w5.heap.size, 1, none⟩ = some (.slice a5 l5.length c5) from cell_new rfl rfl)
        have d0f := bkeepf hb6 (v := .bool n5) (cell_new rfl rfl) (by simp [go_sem] : (w5.alloc (.cells #[.bool n5, .slice a5 l5.length c5] 33)).frozen? ⟨w5.heap.size, 0, none⟩ = false)
        have d1f := bkeepf hb6 (v := .slice a5 l5.length c5) (cell_new rfl rfl) (by simp [go_sem] : (w5.alloc (.cells #[.bool n5, .slice a5 l5.length c5] 33)).frozen? ⟨w5.heap.size, 1, none⟩ = false)
        have hb6' : Below w5.heap.size w5 w6 := bthen hb5a hb6
        replace r0f := bkeepf hb6' r0 r0f
        replace r1f := bkeepf hb6' r1 r1f
        replace r0 := bkeep hb6' r0
        replace r1 := bkeep hb6' r1
        have hB6 := bthen hB5 hb6'
        have zr6 := cell_lt r0
        have zd6 := cell_lt d0
        have hne6 : ¬ w5.heap.size = W.heap.size := Nat.ne_of_gt zr
        have HP6 := Lib.hid (hv6.put2 d0 d1)
        obtain ⟨n6, a6, c6, l6, rfl, -⟩ := hv6
        unfold iv at *
        have HP7 := Lib.hid ((HP6.out (.bool n6) (.slice a6 l6.length c6)).put2 (cell_far2 r0 hne6 n6 a6 l6.length c6) (cell_far2 r1 hne6 n6 a6 l6.length c6) (.bool n6) (.slice a6 l6.length c6))
        clear nc HV5 HP6 hb6 hb5a
        go_wp2
        refine bodyPost_ret (v := .agg #[.bool n6, .slice a6 l6.length c6]) (by simp [results, Tryd.results87, go_sem, *]) rfl ⟨⟨_, rfl, by rw [HIA.out, if_pos hp]; exact HP7.out⟩, ?_⟩
        repeat (first | exact Below.refl _ _ | exact hB6 | refine Below.drew ?_ | refine below_drewN ?_ _ | refine bset ?_ (by simp <;> omega) _ | refine bal ?_ _)
      · have hs2 : ((i : Int) + (j : Int)).tmod 2 = 0 := by rw [HTM.out, (Nat.mod_two_eq_zero_or_one _).resolve_right hp]; rfl
        have HP6 := Lib.hid ((HV5.out.put2 r0 r1 (.bool n5) (.slice a5 l5.length c5)).keep (bal (Below.refl _ _) (.cells #[.bool n5, .slice a5 l5.length c5] 33)))
        go_wp2
        refine bodyPost_ret (v := .agg #[.bool n5, .slice a5 l5.length c5]) (by simp [results, Tryd.results87, go_sem, *]) rfl ⟨⟨_, rfl, by rw [HIA.out, if_neg hp]; exact HP6.out⟩, ?_⟩
        repeat (first | exact Below.refl _ _ | exact hB5 | refine Below.drew ?_ | refine below_drewN ?_ _ | refine bset ?_ (by simp <;> omega) _ | refine bal ?_ _)
end Go.Proofs.YthaohpfbengabaaDoor

/- matrix: Det, Adjugate; row: Content. -/
namespace Go.Proofs.YthaohpfbengabaaDoor
open Num
open Go.ChangeShapes Go.WideShapes Go.ChangeAt Go.RowKit
set_option linter.unusedVariables false
set_option linter.unusedSimpArgs false
attribute [local go_sem ↓] Go.wp_at_zero Go.wp_at_succ
theorem sq_rct {g : Grid} (h : sqB g = true) (hr : Rct g (cols g)) : Rct g g.length := by
  unfold sqB at h
  simp at h
  rw [h.2]
  exact fun i hi => hr i (by omega)
theorem sq_pos {g : Grid} (h : sqB g = true) : 0 < g.length := by unfold sqB at h; simp at h; exact h.1
/-- what Det answers -/
def DetPost (g : Grid) (w : World) (e : Ending) (w' : World) : Prop :=
  ((sqB g = true ∧ ∃ u, e = .returned (.tuple #[u, .int .i64 0]) ∧ IsInt w' u (Det.detE g.length (gat g))) ∨ (sqB g = false ∧ e = .returned (.tuple #[.agg #[.bool false, .slice none 0 0], .int .i64 5]))) ∧ Below w.heap.size w w'
set_option maxRecDepth 100000 in
set_option maxHeartbeats 4000000 in
theorem detM_c (v : Value) (g : Grid) (K : Nat) (w : World) (hv : IsM 0 w v g) (hr : Rct g (cols g)) (hn : g.length ≤ 65536) (hK1 : 1 ≤ K) (hbd : BdM K g) (hK : kb K g.length ≤ 4294967296) :
    Calls Tryd.prog 11 #[v] w (DetPost g w) := by
  have sc := fun W (q : Below w.heap.size w W) => square_c v g W (hv.keep q)
  obtain ⟨ag, cg, rfl, lv⟩ := hv
  have dc := fun W (q : Below w.heap.size w W) (h : sqB g = true) => det_c (.slice ag g.length cg) g K W (lv.keep (prs_prow 0) q) (sq_rct h hr) (by omega) hK1 hbd hK
  have SC := Lib.hid sc
  have DC := Lib.hid dc
  clear sc dc lv hr hbd
  obtain ⟨N, hN⟩ : ∃ N, g.length = N := ⟨_, rfl⟩
  have HN := Lib.hid hN
  rw [hN] at SC DC hn hK ⊢
  clear hN
  have hB := Below.refl w.heap.size w
  obtain ⟨b, hb⟩ : ∃ b, sqB g = b := ⟨_, rfl⟩
  have HBQ := Lib.hid hb
  rw [hb] at SC
  clear hb
  cases b with
  | true =>
    go_enter Tryd.func11, Tryd.ntmps11
    go_wp2_with fail
    refine (SC.out _ (by repeat (first | exact Below.refl _ _ | exact hB | refine Below.drew ?_ | refine below_drewN ?_ _ | refine bset ?_ (by simp <;> omega) _ | refine bal ?_ _))).mono ?_
    rintro e w1 ⟨rfl, hb1⟩
    have m0 : w1.cell? ⟨w.heap.size, 0, none⟩ = some (.slice ag N cg) := bkc hb1
    have zm0 := cell_lt m0
    have r0 : w1.cell? ⟨w.heap.size + 1, 0, none⟩ = some (.bool false) := bkc hb1
    have zr0 := cell_lt r0
    have r0f : w1.frozen? ⟨w.heap.size + 1, 0, none⟩ = false := bkcf (v := .bool false) hb1
    have r1 : w1.cell? ⟨w.heap.size + 1, 1, none⟩ = some (.slice none 0 0) := bkc hb1
    have r1f : w1.frozen? ⟨w.heap.size + 1, 1, none⟩ = false := bkcf (v := .slice none 0 0) hb1
    have hB : Below w.heap.size w w1 := bthen (by repeat (first | exact Below.refl _ _ | exact hB | refine Below.drew ?_ | refine below_drewN ?_ _ | refine bset ?_ (by simp <;> omega) _ | refine bal ?_ _)) hb1
    have hz : w.heap.size ≤ w1.heap.size := hB.size
    go_wp2_with fail
    refine (DC.out _ (by repeat (first | exact Below.refl _ _ | exact hB | refine Below.drew ?_ | refine below_drewN ?_ _ | refine bset ?_ (by simp <;> omega) _ | refine bal ?_ _)) HBQ.out).mono ?_
    rintro e w2 ⟨⟨u, rfl, hu⟩, hb2⟩
    have m0 : w2.cell? ⟨w.heap.size, 0, none⟩ = some (.slice ag N cg) := bkc hb2
    have zm0 := cell_lt m0
    have r0 : w2.cell? ⟨w.heap.size + 1, 0, none⟩ = some (.bool false) := bkc hb2
    have zr0 := cell_lt r0
    have r0f : w2.frozen? ⟨w.heap.size + 1, 0, none⟩ = false := bkcf (v := .bool false) hb2
    have r1 : w2.cell? ⟨w.heap.size + 1, 1, none⟩ = some (.slice none 0 0) := bkc hb2
    have r1f : w2.frozen? ⟨w.heap.size + 1, 1, none⟩ = false := bkcf (v := .slice none 0 0) hb2
    have hB : Below w.heap.size w w2 := bthen (by repeat (first | exact Below.refl _ _ | exact hB | refine Below.drew ?_ | refine below_drewN ?_ _ | refine bset ?_ (by simp <;> omega) _ | refine bal ?_ _)) hb2
    have hz : w.heap.size ≤ w2.heap.size := hB.size
    have HP := Lib.hid (hu.put2 r0 r1)
    obtain ⟨nu, au, cu, lu, rfl, -⟩ := hu
    unfold iv at *
    clear SC DC
    go_wp2
    refine bodyPost_ret (v := .tuple #[.agg #[.bool nu, .slice au lu.length cu], .int .i64 0]) (by simp [results, Tryd.results11, go_sem, *]) rfl ⟨.inl ⟨HBQ.out, _, rfl, by rw [HN.out]; exact HP.out _ _⟩, ?_⟩
    repeat (first | exact Below.refl _ _ | exact hB | refine Below.drew ?_ | refine below_drewN ?_ _ | refine bset ?_ (by simp <;> omega) _ | refine bal ?_ _)
  | false =>
    go_enter Tryd.func11, Tryd.ntmps11
    go_wp2_with fail
    refine (SC.out _ (by repeat (first | exact Below.refl _ _ | exact hB | refine Below.drew ?_ | refine below_drewN ?_ _ | refine bset ?_ (by simp <;> omega) _ | refine bal ?_ _))).mono ?_
    rintro e w1 ⟨rfl, hb1⟩
    have m0 : w1.cell? ⟨w.heap.size, 0, none⟩ = some (.slice ag N cg) := bkc hb1
    have zm0 := cell_lt m0
    have r0 : w1.cell? ⟨w.heap.size + 1, 0, none⟩ = some (.bool false) := bkc hb1
    have zr0 := cell_lt r0
    have r0f : w1.frozen? ⟨w.heap.size + 1, 0, none⟩ = false := bkcf (v := .bool false) hb1
    have r1 : w1.cell? ⟨w.heap.size + 1, 1, none⟩ = some (.slice none 0 0) := bkc hb1
    have r1f : w1.frozen? ⟨w.heap.size + 1, 1, none⟩ = false := bkcf (v := .slice none 0 0) hb1
    have hB : Below w.heap.size w w1 := bthen (by repeat (first | exact Below.refl _ _ | exact hB | refine Below.drew ?_ | refine below_drewN ?_ _ | refine bset ?_ (by simp <;> omega) _ | refine bal ?_ _)) hb1
    have hz : w.heap.size ≤ w1.heap.size := hB.size
    clear SC DC
    go_wp2
    refine bodyPost_ret (v := .tuple #[.agg #[.bool false, .slice none 0 0], .int .i64 5]) (by simp [results, Tryd.results11, go_sem, *]) rfl ⟨.inr ⟨HBQ.out, rfl⟩, ?_⟩
    repeat (first | exact Below.refl _ _ | exact hB | refine Below.drew ?_ | refine below_drewN ?_ _ | refine bset ?_ (by simp <;> omega) _ | refine bal ?_ _)
/-- the adjugate -/
def adjG (g : Grid) : Grid := tab g.length g.length (Det.iadj g.length (gat g))
set_option maxRecDepth 100000 in
set_option maxHeartbeats 8000000 in
theorem adjM_c (v : Value) (g : Grid) (K : Nat) (w : World) (hv : IsM 0 w v g) (hr : Rct g (cols g)) (hn : g.length ≤ 65536) (hK1 : 1 ≤ K) (hbd : BdM K g) (hK : kb K (g.length - 1) ≤ 4294967296) :
    Calls Tryd.prog 63 #[v] w (MOr (sqB g = true) 5 (adjG g) w) := by
  have sc := fun W (q : Below w.heap.size w W) => square_c v g W (hv.keep q)
  obtain ⟨ag, cg, rfl, lv⟩ := hv
  have rc1 := fun V => rowsM_c ag g.length cg V
  have fc := fun V (q : Below w.heap.size w V) (e1 : V.cell? ⟨w.heap.size, 0, none⟩ = some (.slice ag g.length cg)) (h : sqB g = true) =>
    filled_c g.length g.length (Det.iadj g.length (gat g)) 87 #[.pointer (some ⟨w.heap.size, 0, none⟩)] V (adj1_c w.heap.size g K V (lv.box q e1) (sq_rct h hr) hn hK1 hbd hK) (ens Tryd.func87 (by kernel_rfl) rfl) (by omega) (by omega)
  have SC := Lib.hid sc
  have FC := Lib.hid fc
  have RC1 := Lib.hid rc1
  clear sc fc rc1 lv hr hbd
  unfold adjG
  obtain ⟨FF, hFF⟩ : ∃ FF, Det.iadj g.length (gat g) = FF := ⟨_, rfl⟩
  rw [hFF] at FC ⊢
  clear hFF
  obtain ⟨N, hN⟩ : ∃ N, g.length = N := ⟨_, rfl⟩
  rw [hN] at SC FC RC1 hn hK ⊢
  clear hN
  have hB := Below.refl w.heap.size w
  obtain ⟨b, hb⟩ : ∃ b, sqB g = b := ⟨_, rfl⟩
  have HBQ := Lib.hid hb
  rw [hb] at SC
  clear hb
  cases b with
  | true =>
    go_enter Tryd.func63, Tryd.ntmps63
    go_wp2_with fail
    refine (SC.out _ (by repeat (first | exact Below.refl _ _ | exact hB | refine Below.drew ?_ | refine below_drewN ?_ _ | refine bset ?_ (by simp <;> omega) _ | refine bal ?_ _))).mono ?_
    rintro e w1 ⟨rfl, hb1⟩
    have m0 : w1.cell? ⟨w.heap.size, 0, none⟩ = some (.slice ag N cg) := bkc hb1
    have zm0 := cell_lt m0
    have r0 : w1.cell? ⟨w.heap.size + 1, 0, none⟩ = some (.slice none 0 0) := bkc hb1
    have zr0 := cell_lt r0
    have r0f : w1.frozen? ⟨w.heap.size + 1, 0, none⟩ = false := bkcf (v := .slice none 0 0) hb1
    have hB : Below w.heap.size w w1 := bthen (by repeat (first | exact Below.refl _ _ | exact hB | refine Below.drew ?_ | refine below_drewN ?_ _ | refine bset ?_ (by simp <;> omega) _ | refine bal ?_ _)) hb1
    have hz : w.heap.size ≤ w1.heap.size := hB.size
    have HT1 := Lib.hid (show typOf w1 (w.heap.size + 1) = some 27 from typ_keep (typ_fresh (by simp)) hb1)
    go_wp2
    refine wp_region_grow_tail (w := w1) 5 (by kernel_rfl) (by kernel_rfl) ?_
    simp only [List.take_succ_cons, List.take_zero, List.drop_succ_cons, List.drop_zero]
    have m0g : ∀ gs, (grow w1 gs).cell? ⟨w.heap.size, 0, none⟩ = some (.slice ag N cg) := fun gs => bkeep gs.below m0
    have r0g : ∀ gs, (grow w1 gs).cell? ⟨w.heap.size + 1, 0, none⟩ = some (.slice none 0 0) := fun gs => bkeep gs.below r0
    repeat (go_big_quiet_step ((first | (go_at_call 9; with_reducible exact grow_of (RC1.out _)) | fail)))
    refine wpQuiet_nil ?_
    intro w2 hb2
    clear m0g
    clear r0g
    have m0 := bkeep hb2 m0
    have r0f := bkeepf hb2 r0 r0f
    have r0 := bkeep hb2 r0
    have hB := bthen hB hb2
    have hz := hB.size
    have HT2 := Lib.hid (typ_keep HT1.out hb2)
    clear HT1
    go_wp2_with fail
    refine (FC.out _ hB m0 HBQ.out).mono ?_
    rintro e w3 ⟨⟨v3, rfl, hv3⟩, hb3⟩
    have HT3 := typ_keep HT2.out hb3
    have HV := Lib.hid (hv3.rebase hz)
    obtain ⟨a3, c3, rfl⟩ := hv3.lit
    have m0 := bkeep hb3 m0
    have r0f := bkeepf hb3 r0 r0f
    have r0 := bkeep hb3 r0
    have hB := bthen hB hb3
    have hz := hB.size
    rw [tab_len] at HV ⊢
    clear FC hv3 m0 SC
    go_wp2
    refine bodyPost_ret (v := .tuple #[.agg #[.slice a3 N c3], .int .i64 0]) (by simp [results, Tryd.results63, go_sem, *]) rfl ⟨.inl ⟨HBQ.out, _, rfl, HV.out.setM HT3 _⟩, ?_⟩
    repeat (first | exact Below.refl _ _ | exact hB | refine Below.drew ?_ | refine below_drewN ?_ _ | refine bset ?_ (by simp <;> omega) _ | refine bal ?_ _)
  | false =>
    go_enter Tryd.func63, Tryd.ntmps63
    go_wp2_with fail
    refine (SC.out _ (by repeat (first | exact Below.refl _ _ | exact hB | refine Below.drew ?_ | refine below_drewN ?_ _ | refine bset ?_ (by simp <;> omega) _ | refine bal ?_ _))).mono ?_
    rintro e w1 ⟨rfl, hb1⟩
    have m0 : w1.cell? ⟨w.heap.size, 0, none⟩ = some (.slice ag N cg) := bkc hb1
    have zm0 := cell_lt m0
    have r0 : w1.cell? ⟨w.heap.size + 1, 0, none⟩ = some (.slice none 0 0) := bkc hb1
    have zr0 := cell_lt r0
    have r0f : w1.frozen? ⟨w.heap.size + 1, 0, none⟩ = false := bkcf (v := .slice none 0 0) hb1
    have hB : Below w.heap.size w w1 := bthen (by repeat (first | exact Below.refl _ _ | exact hB | refine Below.drew ?_ | refine below_drewN ?_ _ | refine bset ?_ (by simp <;> omega) _ | refine bal ?_ _)) hb1
    have hz : w.heap.size ≤ w1.heap.size := hB.size
    clear SC FC
    go_wp2
    refine bodyPost_ret (v := .tuple #[.agg #[.slice none 0 0], .int .i64 5]) (by simp [results, Tryd.results63, go_sem, *]) rfl ⟨.inr ⟨by rw [HBQ.out]; decide, rfl⟩, ?_⟩
    repeat (first | exact Below.refl _ _ | exact hB | refine Below.drew ?_ | refine below_drewN ?_ _ | refine bset ?_ (by simp <;> omega) _ | refine bal ?_ _)
set_option maxRecDepth 100000 in
set_option maxHeartbeats 8000000 in
theorem content_c (v : Value) (l : List Int) (k : Nat) (w : World) (hv : PRow 0 w v l) (hl : l.length ≤ 1099511627775) (hb : ∀ j, Bd k (l.getD j 0)) (hk : k ≤ 17179869184) :
    Calls Tryd.prog 65 #[v] w fun e w' => (∃ u, e = .returned u ∧ IsInt w' u (contL l)) ∧ Below w.heap.size w w' := by
  have HV := Lib.hid hv
  have HBD := Lib.hid hb
  have HCB := Lib.hid (contL_bd hb)
  have HC1 := Lib.hid (fun j (h : contL (l.take j) = 1) => contL_one h)
  obtain ⟨va, vc, rfl, -⟩ := hv
  clear hb
  have hB := Below.refl w.heap.size w
  go_enter Tryd.func65, Tryd.ntmps65
  go_wp2
  go_step3
  go_wp2
  refine wp_name fun w0 hW0 => ?_
  have hB0 : Below w.heap.size w w0 := by rw [hW0]; repeat (first | exact Below.refl _ _ | exact hB | refine Below.drew ?_ | refine below_drewN ?_ _ | refine bset ?_ (by simp <;> omega) _ | refine bal ?_ _)
  have HR0 := Lib.hid (show w0.cell? ⟨w.heap.size, 0, none⟩ = some (.bool false) ∧ w0.cell? ⟨w.heap.size, 1, none⟩ = some (.slice none 0 0) ∧ w0.frozen? ⟨w.heap.size, 0, none⟩ = false ∧ w0.frozen? ⟨w.heap.size, 1, none⟩ = false from by rw [hW0]; simp [go_sem])
  have HM0 := Lib.hid (show VarI (w.heap.size + 1) 0 w0 from by rw [hW0]; exact ⟨typ_fresh (by simp), false, none, 0, 0, by simp [go_sem], by simp [go_sem], by simp [go_sem], by simp [go_sem], isInt_zero _⟩)
  clear hW0
  go_step3
  go_wp2
  go_loopw [8] (fun x wr => ∃ j : Nat, j ≤ l.length ∧ x = .int .i64 j ∧ Below w.heap.size w wr ∧ Hid (wr.cell? ⟨w.heap.size, 0, none⟩ = some (.bool false) ∧ wr.cell? ⟨w.heap.size, 1, none⟩ = some (.slice none 0 0) ∧ wr.frozen? ⟨w.heap.size, 0, none⟩ = false ∧ wr.frozen? ⟨w.heap.size, 1, none⟩ = false) ∧ Hid (VarI (w.heap.size + 1) (contL (l.take j)) wr)) (fun x _ => l.length - (intOf x).toNat)
  case atStart => exact ⟨0, Nat.zero_le _, rfl, hB0, HR0, HM0⟩
  case round =>
    obtain ⟨j, hj, rfl, hBr, HR, hM⟩ := hrel
    obtain ⟨-, n0, a0, ln0, c0, m0, m1, m0f, m1f, hi0⟩ := hM.out
    obtain ⟨r0, r1, r0f, r1f⟩ := HR.out
    have HI0 := Lib.hid hi0
    have zm := cell_lt m0
    have zr := cell_lt r0
    have HR' := HR
    clear hi0 HR
    by_cases hlt : j < l.length
    · have hltI : (j : Int) < (l.length : Int) := by omega
      obtain ⟨a', c', he, -, vr⟩ := (HV.out.keep lims_int hBr).view
      obtain ⟨rfl, -, rfl⟩ := Value.slice.inj he
      obtain ⟨b, off, n2, a2, l2, cc2, rfl, d0, d1, hi⟩ := vr j hlt
      have HW := Lib.hid (contL_take hlt)
      have bs := HCB.out j hj
      have bj := HBD.out j
      obtain ⟨x, hx⟩ : ∃ x, l.getD j 0 = x := ⟨_, rfl⟩
      rw [hx] at hi HW bj
      obtain ⟨m, hm⟩ : ∃ m, contL (l.take j) = m := ⟨_, rfl⟩
      rw [hm] at HI0 HW hM bs
      have zd := cell_lt d0
      have gc := fun W (h : Below wr.heap.size wr W) => gcdI_c _ _ m x k W (HI0.out.keep h) (hi.keep h) bs bj hk
      clear hx hm he vr hi bs bj
      have hBw := Below.refl wr.heap.size wr
      go_wp2_with fail
      refine (gc _ (by repeat (first | exact Below.refl _ _ | exact hBw | refine Below.drew ?_ | refine below_drewN ?_ _ | refine bset ?_ (by simp <;> omega) _ | refine bal ?_ _))).mono ?_
      rintro e w2 ⟨⟨u, rfl, hu⟩, hb2⟩
      have hb2' : Below wr.heap.size wr w2 := bthen (by repeat (first | exact Below.refl _ _ | exact hBw | refine Below.drew ?_ | refine below_drewN ?_ _ | refine bset ?_ (by simp <;> omega) _ | refine bal ?_ _)) hb2
      have HU := Lib.hid hu
      obtain ⟨nu, au, cu, lu, rfl, -⟩ := hu
      unfold iv at *
      have HV2 := Lib.hid ((hM.out.keep hb2').put HU.out)
      replace r0f := bkeepf hb2' r0 r0f
      replace r1f := bkeepf hb2' r1 r1f
      replace m0f := bkeepf hb2' m0 m0f
      replace m1f := bkeepf hb2' m1 m1f
      replace r0 := bkeep hb2' r0
      replace r1 := bkeep hb2' r1
      replace m0 := bkeep hb2' m0
      replace m1 := bkeep hb2' m1
      have hB2 := bthen hBr hb2'
      clear gc d0 d1 hb2 HI0
      go_wp2
      refine wp_name fun w3 hW3 => ?_
      have HV3 := Lib.hid (show VarI (w.heap.size + 1) (gcdI m x) w3 from by rw [hW3]; exact HV2.out)
      have HR3 := Lib.hid (show w3.cell? ⟨w.heap.size, 0, none⟩ = some (.bool false) ∧ w3.cell? ⟨w.heap.size, 1, none⟩ = some (.slice none 0 0) ∧ w3.frozen? ⟨w.heap.size, 0, none⟩ = false ∧ w3.frozen? ⟨w.heap.size, 1, none⟩ = false from by
        rw [hW3]
        exact ⟨cell_far2 r0 (by omega) _ _ _ _, cell_far2 r1 (by omega) _ _ _ _, by rw [World.frozen?_setCell, World.frozen?_setCell]; exact r0f, by rw [World.frozen?_setCell, World.frozen?_setCell]; exact r1f⟩)
      have hB3 : Below w.heap.size w w3 := by rw [hW3]; exact bset (bset hB2 (by show w.heap.size ≤ w.heap.size + 1; omega) _) (by show w.heap.size ≤ w.heap.size + 1; omega) _
      clear hW3 HV2 r0 r1 r0f r1f m0 m1 m0f m1f hB2 HU hb2' hM HR'
      rw [← HW.out] at HV3
      obtain ⟨z, hz⟩ : ∃ z, contL (l.take (j + 1)) = z := ⟨_, rfl⟩
      have HZ := Lib.hid hz
      rw [hz] at HV3
      clear hz HW
      obtain ⟨-, n3, a3, ln3, c3, q0, q1, -, -, qI⟩ := HV3.out
      have HQI := Lib.hid qI
      clear qI
      have zq := cell_lt q0
      have oc := fun W => of_c 1 W (by decide) (by decide)
      obtain ⟨c, hc⟩ : ∃ c, cmpI z 1 = c := ⟨_, rfl⟩
      have HC := Lib.hid hc
      have kc := fun vy W (q : Below w3.heap.size w3 W) (hy : IsInt W vy 1) => cmp_c _ vy z 1 W (HQI.out.keep q) hy
      rw [hc] at kc
      clear hc
      have hBx := Below.refl w3.heap.size w3
      have HS := Lib.hid (show ∀ W, Below w3.heap.size w3 W → W.cell? ⟨w.heap.size + 1, 0, none⟩ = some (.bool n3) ∧ W.cell? ⟨w.heap.size + 1, 1, none⟩ = some (.slice a3 ln3 c3) from fun W q => ⟨bkeep q q0, bkeep q q1⟩)
      go_region_held3 (fun W => W.cell? ⟨w.heap.size + 1, 0, none⟩ = some (.bool n3) ∧ W.cell? ⟨w.heap.size + 1, 1, none⟩ = some (.slice a3 ln3 c3))
        (first | (refine HS.out _ ?_; (repeat (first | exact Below.refl _ _ | exact hBx | refine Below.drew ?_ | refine below_drewN ?_ _ | refine bset ?_ (by simp <;> omega) _ | refine bal ?_ _)); done) | fail)
        (first
        | (go_at_call 27; refine (oc _).mono ?_; rintro e w5 ⟨⟨v5, rfl, hi5⟩, hb5⟩; (have hBd : Below w3.heap.size w3 w5 := bthen (by repeat (first | exact Below.refl _ _ | exact hBx | refine Below.drew ?_ | refine below_drewN ?_ _ | refine bset ?_ (by simp <;> omega) _ | refine bal ?_ _)) hb5; clear hBx; have hBx := hBd; clear hBd); have HI5 := Lib.hid hi5; obtain ⟨n5, a5, c5, l5, rfl, -⟩ := hi5; unfold iv at *)
        | (go_at_call 13; refine (kc _ _ ?_ (HI5.out.keep ?_)).mono ?_; (repeat (first | exact Below.refl _ _ | exact hBx | refine Below.drew ?_ | refine below_drewN ?_ _ | refine bset ?_ (by simp <;> omega) _ | refine bal ?_ _)); (have hBy := Below.refl w5.heap.size w5; (repeat (first | exact Below.refl _ _ | exact hBy | refine Below.drew ?_ | refine below_drewN ?_ _ | refine bset ?_ (by simp <;> omega) _ | refine bal ?_ _))); rintro e w6 ⟨rfl, hb6⟩; (have hBd : Below w3.heap.size w3 w6 := bthen (by repeat (first | exact Below.refl _ _ | exact hBx | refine Below.drew ?_ | refine below_drewN ?_ _ | refine bset ?_ (by simp <;> omega) _ | refine bal ?_ _)) hb6; clear hBx; have hBx := hBd; clear hBd))
        | fail)
      all_goals
        have HV6 := Lib.hid (HV3.out.keep hBx)
        obtain ⟨q0, q1⟩ := HS.out _ hBx
        have r0f := bkeepf hBx HR3.out.1 HR3.out.2.2.1
        have r1f := bkeepf hBx HR3.out.2.1 HR3.out.2.2.2
        have r0 := bkeep hBx HR3.out.1
        have r1 := bkeep hBx HR3.out.2.1
        have zq := cell_lt q0
        have zr := cell_lt r0
        have hB6 := bthen hB3 hBx
        have HQ6 := Lib.hid (HQI.out.keep hBx)
        by_cases hc0 : c = 0
        · have hce : (c == 0) = true := by simp [hc0]
          have HZ1 : Hid (z = 1) := Lib.hid (by
            have h := HC.out
            rw [hc0] at h
            unfold cmpI at h
            split at h
            · cases h
            · split at h
              · assumption
              · cases h)
          have HE := Lib.hid (show z = contL l from by rw [HC1.out (j + 1) (by rw [HZ.out]; exact HZ1.out)]; exact HZ1.out)
          have hp := Lib.hid (HQ6.out.put2 r0 r1)
          rw [HE.out] at hp
          clear HV6 HR3 HV3 HS kc oc hb6 hb5 hBx hB3
          go_wp2
          rw [Exit.noGoto_ret]
          refine bodyPost_ret (v := .agg #[.bool n3, .slice a3 ln3 c3]) (by simp [results, Tryd.results65, go_sem, *]) rfl ⟨⟨_, rfl, hp.out _ _⟩, ?_⟩
          repeat (first | exact Below.refl _ _ | exact hB6 | refine Below.drew ?_ | refine below_drewN ?_ _ | refine bset ?_ (by simp <;> omega) _ | refine bal ?_ _)
        · have hce : (c == 0) = false := by simp [hc0]
          have HR6 := Lib.hid (show w6.cell? ⟨w.heap.size, 0, none⟩ = some (.bool false) ∧ w6.cell? ⟨w.heap.size, 1, none⟩ = some (.slice none 0 0) ∧ w6.frozen? ⟨w.heap.size, 0, none⟩ = false ∧ w6.frozen? ⟨w.heap.size, 1, none⟩ = false from ⟨r0, r1, r0f, r1f⟩)
          rw [← HZ.out] at HV6
          clear HR3 HV3 HS kc oc hb6 hb5 hBx hB3 hc0
          go_wp2
          exact ⟨⟨j + 1, hlt, by go_num, hB6, HR6, HV6⟩, meas hlt (by go_num) rfl⟩
    · obtain rfl : j = l.length := by omega
      rw [List.take_length] at HI0
      have hp := Lib.hid (HI0.out.put2 r0 r1)
      go_wp2
      rw [Exit.noGoto_ret]
      refine bodyPost_ret (v := .agg #[.bool n0, .slice a0 ln0 c0]) (by simp [results, Tryd.results65, go_sem, *]) rfl ⟨⟨_, rfl, hp.out _ _⟩, ?_⟩
      repeat (first | exact Below.refl _ _ | exact hBr | refine Below.drew ?_ | refine below_drewN ?_ _ | refine bset ?_ (by simp <;> omega) _ | refine bal ?_ _)
end Go.Proofs.YthaohpfbengabaaDoor

/- matrix: Inverse's function value. -/
namespace Go.Proofs.YthaohpfbengabaaDoor
open Num
open Go.ChangeShapes Go.WideShapes Go.ChangeAt Go.RowKit
set_option linter.unusedVariables false
set_option linter.unusedSimpArgs false
attribute [local go_sem ↓] Go.wp_at_zero Go.wp_at_succ
theorem IsInt.setT {w : World} {v : Value} {z : Int} {p : Addr} (h : IsInt w v z) (ht : typOf w p.block = some 33) (u : Value) : IsInt (w.setCell p u) v z :=
  h.lim (((Kp.refl (fun t => t ≠ 33) w).set (p := p) (fun t ht' => by rw [ht] at ht'; cases ht'; exact fun hh => hh rfl) u).lim (by decide))
theorem IsInt.al {w : World} {v : Value} {z : Int} (h : IsInt w v z) (o : Obj) : IsInt (w.alloc o) v z := h.keep (bal (Below.refl _ _) o)
theorem IsInt.dr {w : World} {v : Value} {z : Int} (h : IsInt w v z) : IsInt w.drew v z := h.keep (Below.refl _ _).drew
set_option maxRecDepth 100000 in
set_option maxHeartbeats 8000000 in
theorem inv1_c (bm bo : Nat) (g : Grid) (n m k : Nat) (c : Int) (w : World) (hg : BoxM bm w g) (hc : VarI bo c w) (lg : g.length = n) (rg : Rct g m) (kg : BdM k g) (bc : Bd k c) (hk : k ≤ 17179869184) (hz : c ≠ 0) :
    FnF (fun i j => gat g i j / c) n m 67 #[.pointer (some ⟨bm, 0, none⟩), .pointer (some ⟨bo, 0, none⟩)] w := by
  intro W i j hi hj hW
  obtain ⟨c1, gb, go, rb, ro, rc, n1, a1, l1, k1, g0, g1, g2, g3, gi⟩ := (hg.keep hW).elem rg (by omega : i < g.length) hj
  rw [lg] at g0
  obtain ⟨-, nc, ac, lc, cc, x0, x1, -, -, xI⟩ := hc.keep hW
  have dc := fun V (q : Below W.heap.size W V) => divmod_c (.agg #[.bool n1, .slice a1 l1 k1]) (.agg #[.bool nc, .slice ac lc cc]) (gat g i j) c k V (gi.keep q) (xI.keep q) (kg i j) bc hk hz
  obtain ⟨q, hq⟩ : ∃ q, gat g i j / c = q := ⟨_, rfl⟩
  have HQ := Lib.hid hq
  rw [hq] at dc
  have DC := Lib.hid dc
  clear hg gi lg rg kg hW hc bc dc xI hz hq
  have hiI : (i : Int) < (n : Int) := by omega
  have hjI : (j : Int) < (m : Int) := by omega
  have z0 := cell_lt g0; have z1 := cell_lt g1; have z2 := cell_lt g2; have z3 := cell_lt x0
  have hB := Below.refl W.heap.size W
  show Calls Tryd.prog 67 #[.int .i64 (i : Nat), .int .i64 (j : Nat), .pointer (some ⟨bm, 0, none⟩), .pointer (some ⟨bo, 0, none⟩)] W _
  dsimp only
  rw [HQ.out]
  go_enter Tryd.func67, Tryd.ntmps67
  go_wp2
  refine wp_name fun w1 hW1 => ?_
  have hBc : Below W.heap.size W w1 := by rw [hW1]; repeat (first | exact Below.refl _ _ | exact hB | refine Below.drew ?_ | refine below_drewN ?_ _ | refine bset ?_ (by simp <;> omega) _ | refine bal ?_ _)
  have HR1 := Lib.hid (show w1.cell? ⟨W.heap.size, 0, none⟩ = some (.bool false) ∧ w1.cell? ⟨W.heap.size, 1, none⟩ = some (.slice none 0 0) ∧ w1.frozen? ⟨W.heap.size, 0, none⟩ = false ∧ w1.frozen? ⟨W.heap.size, 1, none⟩ = false from by rw [hW1]; simp [go_sem])
  clear hW1
  replace g0 := bkeep hBc g0
  replace g1 := bkeep hBc g1
  replace g2 := bkeep hBc g2
  replace g3 := bkeep hBc g3
  replace x0 := bkeep hBc x0
  replace x1 := bkeep hBc x1
  replace z0 := cell_lt g0; replace z1 := cell_lt g1; replace z2 := cell_lt g2; replace z3 := cell_lt x0
  go_cut [7] (fun s7 wx => ∃ qb, s7 = .pointer (some ⟨qb, 0, none⟩) ∧ Hid (VarI qb q wx) ∧ Below w1.heap.size w1 wx)
  case first =>
    have hBj := Below.refl w1.heap.size w1
    have HS := Lib.hid (show ∀ V, Below w1.heap.size w1 V → V.cell? ⟨bm, 0, none⟩ = some (.slice (some ⟨gb, go, none⟩) n c1) ∧ V.cell? ⟨gb, go + i, none⟩ = some (.slice (some ⟨rb, ro, none⟩) m rc) ∧ V.cell? ⟨rb, ro + j * 2, none⟩ = some (.bool n1) ∧ V.cell? ⟨rb, ro + j * 2 + 1, none⟩ = some (.slice a1 l1 k1) ∧ V.cell? ⟨bo, 0, none⟩ = some (.bool nc) ∧ V.cell? ⟨bo, 1, none⟩ = some (.slice ac lc cc) from fun V q => ⟨bkeep q g0, bkeep q g1, bkeep q g2, bkeep q g3, bkeep q x0, bkeep q x1⟩)
    go_region_held3 (fun V => V.cell? ⟨bm, 0, none⟩ = some (.slice (some ⟨gb, go, none⟩) n c1) ∧ V.cell? ⟨gb, go + i, none⟩ = some (.slice (some ⟨rb, ro, none⟩) m rc) ∧ V.cell? ⟨rb, ro + j * 2, none⟩ = some (.bool n1) ∧ V.cell? ⟨rb, ro + j * 2 + 1, none⟩ = some (.slice a1 l1 k1) ∧ V.cell? ⟨bo, 0, none⟩ = some (.bool nc) ∧ V.cell? ⟨bo, 1, none⟩ = some (.slice ac lc cc))
      (first | (refine HS.out _ ?_; (repeat' (first | exact Below.refl _ _ | exact hBj | refine Below.drew ?_ | refine below_drewN ?_ _ | refine bal ?_ _ | refine bset ?_ ?_ _ | exact hla1 | exact Nat.le_trans hla1 (Nat.le_succ _) | exact Nat.le_refl _ | exact Nat.le_succ _)); done) | fail)
      (first
      | (go_at_call 66; refine (DC.out _ (bthen hBc ?_)).mono ?_; (repeat (first | exact Below.refl _ _ | exact hBj | refine Below.drew ?_ | refine below_drewN ?_ _ | refine bset ?_ (by simp <;> omega) _ | refine bal ?_ _)); rintro e w11 ⟨⟨u11, v11, rfl, hu11, hv11⟩, hb11⟩; (have hBd : Below w1.heap.size w1 w11 := bthen (by repeat (first | exact Below.refl _ _ | exact hBj | refine Below.drew ?_ | refine below_drewN ?_ _ | refine bset ?_ (by simp <;> omega) _ | refine bal ?_ _)) hb11; clear hBj; have hBj := hBd; clear hBd); have hc11 := (bcell hb11).1; have hf11 := (bcell hb11).2; have ht11 := tcell hb11; have hla1 := hBj.size; have hs11 := hb11.size; (try simp [go_sem] at hs11); (try have qa : w1.heap.size < w11.heap.size := by omega); (try have qb : w1.heap.size + 1 < w11.heap.size := by omega); have HU11 := Lib.hid hu11; obtain ⟨n11, a11, c11, l11, rfl, -⟩ := hu11; obtain ⟨n12, a12, c12, l12, rfl, -⟩ := hv11; unfold iv at *)
      | fail)
    all_goals
      go_wp2_with fail
      go_meet
      refine (fun hbx => ⟨_, rfl, Lib.hid ⟨?_, n11, a11, l11.length, c11, ?_, ?_, ?_, ?_, ?_⟩, hbx⟩ : Below w1.heap.size w1 _ → _) ?_
      all_goals first
        | (simp (disch := (first | (simp; done) | (simp; omega) | omega)) only [typ_set, typ_alloc_eq, typ_alloc_lt, ht11, typ_drew]; done)
        | (simp [go_sem, *]; done)
        | ((repeat' (first | exact Below.refl _ _ | exact hBj | refine Below.drew ?_ | refine below_drewN ?_ _ | refine bal ?_ _ | refine bset ?_ ?_ _ | exact hla1 | exact Nat.le_trans hla1 (Nat.le_succ _) | exact Nat.le_refl _ | exact Nat.le_succ _)); done)
        | ((repeat' (first | exact HU11.out | refine IsInt.al ?_ _ | refine IsInt.dr ?_ | refine IsInt.setT ?_ ?_ _)) <;> (simp (disch := (first | (simp; done) | (simp; omega) | omega)) only [typ_set, typ_alloc_eq, typ_alloc_lt, ht11, typ_drew]; done))
        | ((repeat (refine cell_far ?_ ?b _; case b => (first | (simp; done) | (simp; omega)))); (first | (refine cell_here (v := .bool false) ?_ _; (repeat (refine cell_far ?_ ?b _; case b => (first | (simp; done) | (simp; omega)))); (simp [go_sem, *]; done)) | (refine cell_here (v := .slice none 0 0) ?_ _; (repeat (refine cell_far ?_ ?b _; case b => (first | (simp; done) | (simp; omega)))); (simp [go_sem, *]; done))))
  case rest =>
    obtain ⟨qb, rfl, hX, hbx⟩ := hcut
    have hBW := bthen hBc hbx
    have r0f := bkeepf hbx HR1.out.1 HR1.out.2.2.1
    have r1f := bkeepf hbx HR1.out.2.1 HR1.out.2.2.2
    have r0 := bkeep hbx HR1.out.1
    have r1 := bkeep hbx HR1.out.2.1
    obtain ⟨-, nq, aq, lq, cq, q0, q1, -, -, qI⟩ := hX.out
    have hp := Lib.hid (qI.put2 r0 r1)
    have zq := cell_lt q0
    have zr := cell_lt r0
    clear qI hX HR1 g0 g1 g2 g3 x0 x1 DC
    go_wp2
    refine bodyPost_ret (v := .agg #[.bool nq, .slice aq lq cq]) (by simp [results, Tryd.results67, go_sem, *]) rfl ⟨⟨_, rfl, hp.out _ _⟩, ?_⟩
    repeat (first | exact Below.refl _ _ | exact hBW | refine Below.drew ?_ | refine below_drewN ?_ _ | refine bset ?_ (by simp <;> omega) _ | refine bal ?_ _)
end Go.Proofs.YthaohpfbengabaaDoor

/- limb: Text. -/
namespace Go.Proofs.YthaohpfbengabaaDoor
open Num
open Go.ChangeShapes Go.WideShapes Go.ChangeAt Go.RowKit
set_option linter.unusedVariables false
set_option linter.unusedSimpArgs false
theorem app32l {ops : Array Oper} {rest : List Oper} {o : Oper} {a : Act} {Q : Exit → Act → World → Prop} {w0 wr : World} {v : Value} {L X : List Nat} {t : TypeId} (hgd : o.guard = none) {s x : Operand}
    (ho : o.op = .call { callee := .builtin .append, args := #[s, x], argTypes := #[31, 31] }) (hO : Own32 w0 wr v L) (hs : a.eval s = v)
    {c : Nat} (hx : a.eval x = .slice (some ⟨wr.heap.size, 0, none⟩) X.length c) (hn : L.length + X.length ≤ 1099511627776)
    (h : ∀ v' w', Own32 w0 w' v' (L ++ X) → (∀ (ad : Option Addr) (cd : Nat) (M : List Nat), U32 wr ad cd M → (∀ g f, ad = some ⟨g, f, none⟩ → v.ownBlock ≠ some g) → U32 w' ad cd M) → wpList Tryd.prog ops Q rest (a.put o.dst v') w') : wpList Tryd.prog ops Q (o :: rest) a (wr.alloc (.cells (cel X).toArray t)) := by
  obtain ⟨i, z, hi, hz, hsize, hby, hzs⟩ := el32.info
  refine wpList_append_own _ hgd s x 31 ho w0.heap.size 89 i z 1 4 el32.ht hi hz hsize hby hzs el32.pos v L.length (cel L) hs (hO.1.alloc _) ⟨wr.heap.size, 0, none⟩ X.length c (cel X) hx (by rw [cel_len, Nat.mul_one]) (cells_new wr _ t) (cel_one X) (by unfold maxLen; omega) (by omega) (by have := hO.2.size; simp; omega) ?_
  intro v' w' hown hg _
  have ho : Out (fun k => v.ownBlock = some k) wr w' := ((Out.refl _ wr).alloc _).grown hg fun k hk _ => hk
  exact h v' w' ⟨by rw [cel_app, List.length_append]; exact hown, below_append (wr := wr) (bal hO.2 _) (hO.1.alloc _) hg⟩ fun ad cd M hu hne => hu.okeep ho fun q f e hq => hne q f e hq
theorem Bld.keep {B b : Nat} {l : List UInt8} {w w' : World} (h : Bld B b l w) (hb : Below w.heap.size w w') : Bld B b l w' := by
  have key : ∀ p, Lib.BuilderAt 127 5 B b p (Lib.byteCells l) w → Lib.BuilderAt 127 5 B b p (Lib.byteCells l) w' := by
    rintro p ⟨h1, v, h2, h3, h4⟩
    exact ⟨h1, v, (hb.block b (Array.getElem?_eq_some_iff.1 h2).1).trans h2, own_below (w0 := w) h3 hb, h4⟩
  rcases h with h | h
  · exact .inl (key _ h)
  · exact .inr (key _ h)
theorem Bld.new {w : World} {b : Nat} (hb : b = w.heap.size) : Bld b b [] (w.alloc (.cells #[.pointer none, .slice none 0 0] 127)) := by
  subst hb
  exact .inl ⟨Nat.le_refl _, .slice none 0 0, (MapKept.heap_alloc w _).1, World.ownsRow_nil _ _ _ _, by simp [Value.ownBlock]⟩
theorem pcs_len (k : Nat) : ∀ n, n < 2 ^ k → (pcs n).length ≤ k := by
  induction k with
  | zero => intro n h; obtain rfl : n = 0 := by simpa using h
            rw [pcs_zero]; simp
  | succ k ih =>
    intro n h
    by_cases h0 : 0 < n
    · rw [pcs_pos h0]
      have := ih (n / 1000000000) (by rw [Nat.pow_succ] at h; omega)
      simp; exact this
    · obtain rfl : n = 0 := by omega
      rw [pcs_zero]; simp
theorem pcs_bound {l : List Nat} (hl : Limbs l) (h1 : l.length ≤ 67108865) {P Q : List Nat} (h : pcs (val l) = P ++ Q) : P.length ≤ 2147483680 := by
  have h2 := val_lt hl
  rw [BB_pow] at h2
  have h3 := pcs_len _ _ h2
  rw [h, List.length_append] at h3
  omega
/-- what nine bytes hold when j noughts are left -/
def Z9 (j m p : Nat) : List UInt8 := List.replicate j 0 ++ asc (padD m p)
theorem Z9_len (j m p : Nat) : (Z9 j m p).length = j + m := by simp [Z9, asc_len, padD_len]
theorem rep_set (j : Nat) (T : List UInt8) (d : UInt8) : (List.replicate (j + 1) 0 ++ T).set j d = List.replicate j 0 ++ d :: T := by
  induction j with
  | zero => rfl
  | succ j ih =>
    rw [List.replicate_succ, List.cons_append, List.set_cons_succ, ih]; rfl
theorem Z9_step (j m p : Nat) : (Z9 (j + 1) m p).set j (dig (p / 10 ^ m % 10)) = Z9 j (m + 1) p := by
  unfold Z9
  rw [rep_set, padD_snoc, asc_append]; rfl
theorem Z9_end (p : Nat) : Z9 0 9 p = asc (padD 9 p) := rfl
theorem lowP_top {P : List Nat} {k : Nat} (h : k + 1 = P.length) : lowP (P.drop k) = lowD (P.getD k 0) := by
  have e : P.drop k = [P.getD k 0] := by
    rw [List.drop_eq_getElem_cons (by omega), List.drop_eq_nil_of_le (by omega)]
    simp [List.getElem?_eq_getElem (show k < P.length by omega)]
  rw [e]; rfl
theorem lowP_low {P : List Nat} {k : Nat} (h : k + 1 < P.length) : lowP (P.drop k) = padD 9 (P.getD k 0) ++ lowP (P.drop (k + 1)) := by
  rw [List.drop_eq_getElem_cons (by omega), lowP_cons (by intro h0; have := congrArg List.length h0; simp at this; omega)]
  simp [List.getElem?_eq_getElem (show k < P.length by omega)]
theorem lowP_len : ∀ L : List Nat, (∀ x ∈ L, x < 1000000000) → (lowP L).length ≤ 9 * L.length
  | [], _ => by simp [lowP]
  | [p], h => by
    have := (padD_low 9 p (h p (by simp))).2
    simpa [lowP] using this
  | p :: q :: L, h => by
    have := lowP_len (q :: L) (fun x hx => h x (List.mem_cons_of_mem _ hx))
    rw [lowP_cons (by simp), List.length_append, padD_len]
    simp only [List.length_cons] at this ⊢
    omega
theorem zeroArr9 : ∀ w, (zeroValue 149).run Tryd.prog w = .ok (.agg #[.int .u8 0, .int .u8 0, .int .u8 0, .int .u8 0, .int .u8 0, .int .u8 0, .int .u8 0, .int .u8 0, .int .u8 0]) w := fun w => by kernel_rfl
/-- nine bytes in a block -/
structure Arr9 (w : World) (g : Nat) (Z : List UInt8) : Prop where
  cell : ∀ j, j < 9 → w.cell? ⟨g, j, none⟩ = some (.int .u8 ((Z.getD j 0).toNat : Nat))
  free : ∀ j, w.frozen? ⟨g, j, none⟩ = false
theorem Arr9.new (w : World) (p : Nat) : Arr9 (w.alloc (.cells #[.int .u8 0, .int .u8 0, .int .u8 0, .int .u8 0, .int .u8 0, .int .u8 0, .int .u8 0, .int .u8 0, .int .u8 0] 149)) w.heap.size (Z9 9 0 p) := by
  have hz : ∀ j, (Z9 9 0 p).getD j 0 = 0 := fun j => by
    simp [Z9, asc, padD]
    exact match j with | 0 => rfl | 1 => rfl | 2 => rfl | 3 => rfl | 4 => rfl | 5 => rfl | 6 => rfl | 7 => rfl | 8 => rfl | n + 9 => rfl
  refine ⟨fun j hj => ?_, fun j => by rw [World.frozen?_alloc_at (hn := by simp)]⟩
  rw [hz]
  refine cell_new rfl ?_
  have : j = 0 ∨ j = 1 ∨ j = 2 ∨ j = 3 ∨ j = 4 ∨ j = 5 ∨ j = 6 ∨ j = 7 ∨ j = 8 := by omega
  rcases this with rfl | rfl | rfl | rfl | rfl | rfl | rfl | rfl | rfl <;> rfl
theorem Arr9.set {w : World} {g : Nat} {Z : List UInt8} (h : Arr9 w g Z) (hZ : Z.length = 9) {k : Nat} (hk : k < 9) (x : UInt8) : Arr9 (w.setCell ⟨g, k, none⟩ (.int .u8 (x.toNat : Nat))) g (Z.set k x) := by
  refine ⟨fun j hj => ?_, fun j => by rw [World.frozen?_setCell]; exact h.free j⟩
  by_cases e : k = j
  · subst e
    rw [cell_here (h.cell k hk)]
    simp [hZ, hk]
  · rw [cell_far (h.cell j hj) (by first | (simp; done) | (simp; exact e))]
    simp [List.getElem?_set_ne e]

set_option maxRecDepth 100000 in
set_option maxHeartbeats 8000000 in
theorem limbText_c (a : Option Addr) (ca : Nat) (l : List Nat) (w : World) (ha : U32 w a ca l) (h1 : l.length ≤ 67108865) :
    Calls Tryd.prog 91 #[.slice a l.length ca] w fun e w' => e = .returned (.string ⟨(natTxt (val l)).toArray⟩) ∧ Below w.heap.size w w' := by
  have nc := limbNorm_c a ca l w ha (by omega)
  have HTV := Lib.hid (val_trim l)
  have hTN := trim_nrm l
  have hTl := Nat.le_trans (trim_len l) h1
  have HPL := Lib.hid (show ∀ P Q, pcs (val l) = P ++ Q → P.length ≤ 2147483680 from fun P Q h => pcs_bound ha.2.2.1 h1 h)
  generalize trimL l = T at *
  go_enter Tryd.func91, Tryd.ntmps91
  go_wp2_with fail
  refine nc.mono ?_
  rintro e w0 ⟨⟨a0, rfl, hu0⟩, hb0⟩
  clear nc
  go_wp2
  go_loopg [3, 4] (val T) (fun gk d v wr => ∃ (P : List Nat) (ad : Option Addr) (cd : Nat) (L : List Nat), v = .slice ad L.length cd ∧ U32 wr ad cd L ∧ Nrm L ∧ L.length ≤ 67108865 ∧ gk = val L ∧ Own32 w0 wr d P ∧ pcs (val l) = P ++ pcs (val L))
  case atStart => exact ⟨[], a0, _, T, rfl, hu0, hTN, hTl, rfl, Own32.nil (Below.refl _ _), by rw [HTV.out]; rfl⟩
  case round =>
    obtain ⟨P, ad, cd, L, rfl, hu, hn, hlm, hgk, hO, hP⟩ := hrel
    have HP := Lib.hid (And.intro hgk hP)
    clear hgk hP
    have hPl : P.length ≤ 2147483680 := HPL.out _ _ HP.out.2
    by_cases hL : 0 < L.length
    · have hLz : (0 : Int) < (L.length : Int) := by omega
      have hv0 : 0 < val L := by
        have h1 := nrm_val_pos hn (List.length_pos_iff.1 hL)
        have : 0 < BB ^ (L.length - 1) := Nat.pow_pos BB_pos
        omega
      have dc := fun (W : World) (h : Below wr.heap.size wr W) => divSmallF_c ad cd L 1000000000 W (hu.keep h) (by omega) (by omega) (by unfold BB; omega)
      have HN := Lib.hid (show pcs (val L) = val L % 1000000000 :: pcs (val L / 1000000000) from pcs_pos hv0)
      have HLT := Lib.hid (show val L / 1000000000 < val L by omega)
      have hr9 : val L % 1000000000 < 1000000000 := Nat.mod_lt _ (by omega)
      have HQL := Lib.hid (show ∀ Q : List Nat, Nrm Q → val Q = val L / 1000000000 → Q.length ≤ 67108865 from fun Q hQ hv => by
        refine Nat.le_trans (nrm_len_le (k := L.length) hQ ?_) hlm
        have := val_lt hu.2.2.1
        omega)
      go_wp2_with fail
      refine (dc _ (Below.refl _ _)).mono ?_
      rintro e w2 ⟨⟨u, rfl, hq, hqf⟩, hb2⟩
      have hO2 := hO.below hb2
      have HLT2 := Lib.hid hO.1.lt
      have HQF := Lib.hid hqf
      clear dc hO hu hqf
      obtain ⟨aq, nq, Lq, rfl, rfl, hqu, hqn, hqv⟩ := hq
      have hLqm := HQL.out Lq hqn hqv
      have HV := Lib.hid hqv
      clear hqv
      obtain ⟨r, hr⟩ : ∃ r, r = val L % 1000000000 := ⟨_, rfl⟩
      rw [← hr] at hr9
      have HR := Lib.hid hr
      rw [← hr]
      clear hr
      go_wp2_with (at_builtin; refine app32l (X := [r]) rfl rfl hO2 rfl rfl ?_ ?_; (simp; omega); intro v' w3 hO3 hlim3)
      go_roundg (val L / 1000000000)
      case measure => rw [HP.out.1]; exact HLT.out
      case rel => exact ⟨P ++ [r], aq, _, Lq, rfl, hlim3 aq _ Lq hqu (fun g f e h => by have h1 := (HLT2.out g h).2; have h2 := HQF.out g f _ _ (by rw [e]); omega), hqn, hLqm, HV.out.symm, hO3, by rw [HV.out, HP.out.2, HN.out, HR.out]; simp⟩
    · obtain rfl : L = [] := List.length_eq_zero_iff.1 (by omega)
      have hPN := HP.out.2
      rw [show val [] = 0 from rfl, pcs_zero, List.append_nil] at hPN
      have hB2 := bthen hb0 hO.2
      by_cases hP0 : P = []
      · subst hP0
        have hN0 : val l = 0 := by
          apply Nat.eq_zero_of_not_pos; intro h
          exact pcs_ne h hPN
        have HE := Lib.hid (show natTxt (val l) = [48] by rw [hN0]; rfl)
        rcases hO.ex with ⟨a9, c9, rfl⟩
        clear hPN hN0 hu hO
        simp only [List.length_nil]
        go_wp2
        go_ret
        exact ⟨by rw [HE.out]; rfl, hB2⟩
      · have hN0 : 0 < val l := by
          apply Nat.pos_of_ne_zero; intro h
          rw [h, pcs_zero] at hPN
          exact hP0 hPN.symm
        have HPN := Lib.hid hPN
        have HN0 := Lib.hid hN0
        have hPz : ((P.length : Int) == 0) = false := by rw [beq_eq_false_iff_ne]; have := List.length_pos_iff.2 hP0; omega
        obtain ⟨a9, c9, rfl, hPU⟩ := hO.u32 (L := P) (fun x hx => by
          have := pcs_lt (val l) x (by rw [HPN.out]; exact hx)
          unfold BB; omega)
        rcases hPU.2.2.2 with h0 | ⟨bp, op, rfl, hPc⟩
        · exact absurd h0 hP0
        clear hPN hN0 hu hO hPU
        have HPL9 := Lib.hid (show ∀ x ∈ P, x < 1000000000 from fun x hx => pcs_lt (val l) x (by rw [HPN.out]; exact hx))
        have HLST := Lib.hid (show ∀ h : P ≠ [], 0 < P.getLast h from by rw [← HPN.out]; exact pcs_last (val l))
        have HE := Lib.hid (show natTxt (val l) = asc (lowP P) by rw [← HPN.out, lowP_pcs]; unfold natTxt; rw [if_neg (by have := HN0.out; omega)])
        have hza := zeroArr9
        have hbp := cell_lt (hPc 0 (List.length_pos_iff.2 hP0))
        simp only [List.length_nil]
        go_wp2
        go_loopw [9] (fun x wx => ∃ k : Nat, k ≤ P.length ∧ x = .int .i64 ((k : Int) - 1) ∧ Bld wr.heap.size wr.heap.size (asc (lowP (P.drop k))) wx ∧ Below wr.heap.size wr wx ∧ wr.heap.size < wx.heap.size) (fun x _ => (intOf x + 1).toNat)
        case atStart => exact ⟨P.length, Nat.le_refl _, rfl, by rw [List.drop_length]; exact Bld.new rfl, bal (Below.refl _ _) _, by simp⟩
        case round =>
          rename World => wx
          obtain ⟨k, hk, rfl, hBd, hBx, hsx⟩ := hrel
          cases k with
          | zero =>
            clear hza
            rw [List.drop_zero] at hBd
            go_wp2_with fail
            refine (bstring_c wr.heap.size wr.heap.size _ _ hBd hBx.size).mono ?_
            rintro e w6 ⟨rfl, hb6⟩
            go_wp2
            go_ret
            exact ⟨by rw [HE.out]; rfl, bthen hB2 (hBx.trans hb6)⟩
          | succ k =>
            have hp9 : P.getD k 0 < 1000000000 := HPL9.out _ (by rw [List.getD_eq_getElem?_getD, List.getElem?_eq_getElem (by omega)]; exact List.getElem_mem _)
            have HTOP := Lib.hid (show k + 1 = P.length → 0 < P.getD k 0 from fun h => by
              have h2 := HLST.out hP0
              rw [List.getLast_eq_getElem] at h2
              rw [List.getD_eq_getElem?_getD, List.getElem?_eq_getElem (by omega)]
              have e : P.length - 1 = k := by omega
              simp only [e] at h2
              exact h2)
            have HTP := Lib.hid (show k + 1 = P.length → lowP (P.drop k) = lowD (P.getD k 0) from fun h => lowP_top h)
            have HLO := Lib.hid (show k + 1 < P.length → lowP (P.drop k) = padD 9 (P.getD k 0) ++ lowP (P.drop (k + 1)) from fun h => lowP_low h)
            have q0 := bkeep hBx (hPc k (by omega))
            generalize P.getD k 0 = p at *
            have hkl : (k : Int) < (P.length : Int) := by omega
            have q1 := cell_alloc q0 (.cells #[.int .u8 0, .int .u8 0, .int .u8 0, .int .u8 0, .int .u8 0, .int .u8 0, .int .u8 0, .int .u8 0, .int .u8 0] 149)
            rw [show (((k + 1 : Nat) : Int) - 1) = (k : Int) from by omega]
            go_wp2
            go_loopw [11, 12] (fun xv kv wi => ∃ j m : Nat, j + m = 9 ∧ kv = .int .i64 ((j : Int) - 1) ∧ xv = .int .u32 ((p / 10 ^ m : Nat) : Int) ∧ Arr9 wi wx.heap.size (Z9 j m p) ∧ Below wx.heap.size wx wi ∧ wx.heap.size < wi.heap.size) (fun _ kv _ => (intOf kv + 1).toNat)
            case atStart => exact ⟨9, 0, rfl, rfl, by simp, Arr9.new wx p, bal (Below.refl _ _) _, by simp⟩
            case round =>
              rename World => wi
              obtain ⟨j, m, hjm, rfl, rfl, hA, hBi, hsi⟩ := hrel
              cases j with
              | zero =>
                obtain rfl : m = 9 := by omega
                have hBy : Bld wr.heap.size wr.heap.size (asc (lowP (P.drop (k + 1)))) wi := hBd.keep hBi
                have hsl : (convert 109 9 (.slice (some ⟨wx.heap.size, 0, none⟩) 9 9)).run Tryd.prog wi = .ok (.string ⟨(asc (padD 9 p)).toArray⟩) wi := by
                  have hl9 : (asc (padD 9 p)).length = 9 := by rw [asc_len, padD_len]
                  have := run_convert_bytes_back (P := Tryd.prog) wi 109 9 5 ⟨wx.heap.size, 0, none⟩ 9 (asc (padD 9 p)) Tryd.underlying109 Tryd.underlying5 Tryd.underlying9 (fun j hj => by
                    have h := hA.cell j (by omega)
                    rw [Z9_end] at h
                    unfold Addr.add
                    split
                    · subst_vars; simpa [hj] using h
                    · simpa [hj] using h)
                  rwa [hl9] at this
                have hBw := bthen hBx hBi
                clear hA hBi hBd hza q0 q1
                have hsw := hBw.size
                have hll : (asc (lowP (P.drop (k + 1)))).length ≤ 19327353120 := by
                  have h1 := lowP_len (P.drop (k + 1)) (fun x hx => HPL9.out x (List.mem_of_mem_drop hx))
                  rw [asc_len]
                  have h2 : (P.drop (k + 1)).length ≤ P.length := by rw [List.length_drop]; omega
                  omega
                by_cases hk1 : k + 1 = P.length
                · have ht : ((k : Int) == (P.length : Int) - 1) = true := by rw [beq_iff_eq]; omega
                  have HEQ := Lib.hid (show asc (lowP (P.drop (k + 1))) ++ asc (lowD p) = asc (lowP (P.drop k)) by
                    rw [HTP.out hk1, List.drop_eq_nil_of_le (by omega)]; rfl)
                  have htr := fun W => trimLeft_c ⟨(asc (padD 9 p)).toArray⟩ W
                  rw [show Lib.trimLeftB (ByteArray.mk (asc (padD 9 p)).toArray).data.toList 48 = asc (lowD p) from asc_pad_top (HTOP.out hk1) hp9] at htr
                  have hld : (asc (lowD p)).length ≤ 9 := by rw [asc_len]; exact (padD_low 9 p hp9).2
                  clear hk1
                  generalize asc (padD 9 p) = tx at *
                  generalize asc (lowD p) = ty at *
                  generalize asc (lowP (P.drop (k + 1))) = lx at *
                  go_wp2_with fail
                  refine (htr _).mono ?_
                  rintro e w5 ⟨rfl, rfl⟩
                  clear htr
                  go_wp2_with fail
                  refine (bwrite_c wr.heap.size wr.heap.size lx ⟨ty.toArray⟩ _ hBy (by show lx.length + ty.length ≤ _; omega) hsw).mono ?_
                  rintro e w6 ⟨rfl, hBz, hb6⟩
                  go_wp2
                  exact ⟨⟨k, by omega, by go_num, by rw [← HEQ.out]; exact hBz, hBw.trans hb6, by have := hb6.size; omega⟩, by simp [intOf]⟩
                · have ht : ((k : Int) == (P.length : Int) - 1) = false := by rw [beq_eq_false_iff_ne]; omega
                  have HEQ := Lib.hid (show asc (lowP (P.drop (k + 1))) ++ asc (padD 9 p) = asc (lowP (P.drop k)) by
                    rw [HLO.out (by omega), asc_append])
                  have hld : (asc (padD 9 p)).length ≤ 9 := by rw [asc_len, padD_len]; omega
                  clear hk1
                  generalize asc (padD 9 p) = ty at *
                  generalize asc (lowP (P.drop (k + 1))) = lx at *
                  go_wp2_with fail
                  refine (bwrite_c wr.heap.size wr.heap.size lx ⟨ty.toArray⟩ _ hBy (by show lx.length + ty.length ≤ _; omega) hsw).mono ?_
                  rintro e w6 ⟨rfl, hBz, hb6⟩
                  go_wp2
                  exact ⟨⟨k, by omega, by go_num, by rw [← HEQ.out]; exact hBz, hBw.trans hb6, by have := hb6.size; omega⟩, by simp [intOf]⟩
              | succ j =>
                have HS := Lib.hid (Z9_step j m p)
                have HQ := Lib.hid (show p / 10 ^ (m + 1) = p / 10 ^ m / 10 by rw [Nat.pow_succ, Nat.div_div_eq_div_mul])
                have hZl := Z9_len (j + 1) m p
                rw [show (((j + 1 : Nat) : Int) - 1) = (j : Int) from by omega]
                have hj9 : (j : Int) < 9 := by omega
                have qc := hA.cell j (by omega)
                have qf := hA.free j
                have hAn := hA.set (k := j) (by rw [hZl, hjm]) (by omega) (dig (p / 10 ^ m % 10))
                rw [HS.out] at hAn
                have hq9 : p / 10 ^ m < 4294967296 := Nat.lt_of_le_of_lt (Nat.div_le_self _ _) (by omega)
                generalize p / 10 ^ m = q at *
                have hc10 : q % 10 < 10 := by omega
                obtain ⟨bb, hbb⟩ : ∃ bb, bb = dig (q % 10) := ⟨_, rfl⟩
                rw [← hbb] at hAn
                have e3 : (q : Int).tmod 10 = ((q % 10 : Nat) : Int) := rfl
                have e4 : (q : Int).tdiv 10 = ((q / 10 : Nat) : Int) := rfl
                have e5 : ((q / 10 : Nat) : Int) % 4294967296 = ((q / 10 : Nat) : Int) := by omega
                have hb1 : (48 : Int) + ((q % 10 : Nat) : Int) = (bb.toNat : Int) := by rw [hbb, dig_nat hc10]; omega
                have hb2 : (bb.toNat : Int) % 256 = (bb.toNat : Int) := by have := bb.toNat_lt; omega
                have hb3 : IntKind.u32.wrap (bb.toNat : Int) = (bb.toNat : Int) := w32 (by have := bb.toNat_lt; unfold BB; omega)
                have HBB := Lib.hid hbb
                have HAN := Lib.hid hAn
                clear hbb hAn hZl
                generalize q % 10 = c10 at *
                generalize q / 10 = q10 at *
                go_wp2
                refine ⟨⟨j, m + 1, by omega, by go_num, by rw [HQ.out], HAN.out, bset hBi (by simp) _, by simpa using hsi⟩, by simp [intOf]⟩
end Go.Proofs.YthaohpfbengabaaDoor

/- limb: Digits: the iterator that tells a number's digits, from the first one on. -/
namespace Go.Proofs.YthaohpfbengabaaDoor
open Num
open Go.ChangeShapes Go.WideShapes Go.ChangeAt Go.RowKit
set_option linter.unusedVariables false
set_option linter.unusedSimpArgs false
attribute [local go_sem] Oper.semAt_some

/-- the text's letters are the list's digits -/
def DigTxt (s : ByteArray) (L : List Nat) : Prop := s.data.toList = L.map dig ∧ ∀ d ∈ L, d < 10
theorem DigTxt.size {s : ByteArray} {L : List Nat} (h : DigTxt s L) : s.size = L.length := by
  have e := congrArg List.length h.1
  rw [List.length_map] at e
  rw [← e]; rfl
theorem DigTxt.get {s : ByteArray} {L : List Nat} (h : DigTxt s L) (k : Nat) (hk : k < L.length) (hs : k < s.size) : (s[k]'hs).toNat = 48 + L.getD k 0 ∧ L.getD k 0 < 10 := by
  have hd : L.getD k 0 < 10 := by
    rw [List.getD_eq_getElem?_getD, List.getElem?_eq_getElem hk]; exact h.2 _ (List.getElem_mem _)
  have e : s.data.toList[k]? = some (dig (L.getD k 0)) := by
    rw [h.1, List.getElem?_map, List.getElem?_eq_getElem hk]
    simp [List.getElem?_eq_getElem hk]
  have e2 : s[k]'hs = dig (L.getD k 0) := by
    have h3 : s.data.toList[k]? = some (s[k]'hs) := by
      rw [Array.getElem?_toList]
      exact Array.getElem?_eq_getElem hs
    rw [h3] at e; exact Option.some.inj e
  rw [e2, dig_nat hd]
  exact ⟨rfl, hd⟩
theorem next_dig {s : ByteArray} {L : List Nat} (h : DigTxt s L) {wr : World} {ib pos : Nat} (hit : wr.heap[ib]? = some (.stringIter s pos)) (hp : pos < L.length) (ty : TypeId) :
    (Instr.next (.pointer (some ⟨ib, 0, none⟩)) true ty).run Tryd.prog wr = .ok (.tuple #[.bool true, .int .i64 pos, .int .i32 ((48 + L.getD pos 0 : Nat) : Int)]) (wr.iterAt ib s (pos + 1)) := by
  have hs : pos < s.size := by rw [h.size]; exact hp
  obtain ⟨e, hd⟩ := h.get pos hp hs
  have := Go.Lib.run_next_ascii_at (P := Tryd.prog) wr ib s pos ty hit hs (by rw [e]; omega)
  rwa [e] at this
theorem iterAt_grown (w : World) (k : Nat) (s : ByteArray) (p : Nat) : w.grownBy (w.iterAt k s p) (some k) := by
  refine ⟨rfl, rfl, rfl, by simp [Go.World.iterAt], fun i hi hk => ?_⟩
  simp only [Go.World.iterAt]
  exact Array.getElem?_setIfInBounds_ne (fun e => hk (by rw [e]))

set_option maxRecDepth 100000 in
set_option maxHeartbeats 2000000 in
theorem dg_c (l B N n0 : Nat) (s : ByteArray) (L : List Nat) (J Jx : List Nat → World → Prop) (hJ : AbidesFrom n0 J) (hd : DigTxt s L)
    (hY : ∀ pre x W1, J pre W1 → pre.length < N → YieldAt Fence.wide 3 Tryd.prog l #[.int .i64 ((x % 10 : Nat) : Int)] W1 fun e W' => (e = .returned (.bool true) ∧ J (pre ++ [x]) W' ∧ KeepsWalks W1 W') ∨ (e = .returned (.bool false) ∧ Jx (pre ++ [x]) W'))
    (W : World) (hn : n0 = W.heap.size) (hm : W.cell? ⟨B, 0, none⟩ = some (.string s)) (h0 : J [] W) (hN : L.length ≤ N) :
    Calls Tryd.prog 92 #[.func (.yield l) #[] #[], .pointer (some ⟨B, 0, none⟩)] W fun e W' => (∃ v, e = .returned v) ∧ ((∃ xs, xs = L ∧ J xs W') ∨ (∃ pre, pre <+: L ∧ Jx pre W')) := by
  go_enter Tryd.func92, Tryd.ntmps92
  go_wp2
  go_loopg [4] L.length (fun gk u wr => ∃ pos : Nat, pos ≤ L.length ∧ gk = L.length - pos ∧ wr.heap[W.heap.size]? = some (.stringIter s pos) ∧ J (L.take pos) wr)
  case atStart => exact ⟨0, Nat.zero_le _, by omega, World.iter_heap W s 0, hJ _ _ _ none h0 ⟨rfl, rfl, rfl, by simp [World.iter], fun k hk _ => Below.heap_alloc _ _ _ hk⟩ (fun r e => by cases e)⟩
  case round =>
    obtain ⟨pos, hp, hgk, hit, hj⟩ := hrel
    by_cases hlt : pos < L.length
    · have hnx := next_dig hd hit hlt
      have hd10 := hd.2 (L.getD pos 0) (by rw [List.getD_eq_getElem?_getD, List.getElem?_eq_getElem hlt]; exact List.getElem_mem _)
      obtain ⟨wn, hwn⟩ : ∃ wn, wn = wr.iterAt W.heap.size s (pos + 1) := ⟨_, rfl⟩
      have hitn : wn.heap[W.heap.size]? = some (.stringIter s (pos + 1)) := by rw [hwn]; exact Go.Lib.iterAt_heap wr W.heap.size s pos (pos + 1) hit
      have hjn : J (L.take pos) wn := hJ _ _ _ (some W.heap.size) hj (by rw [hwn]; exact iterAt_grown _ _ _ _) (fun r e => by cases e; exact ⟨Nat.le_of_eq hn, _, hit, rfl⟩)
      rw [← hwn] at hnx
      clear hwn
      have HT := Lib.hid (show L.take (pos + 1) = L.take pos ++ [L.getD pos 0] by
        rw [List.take_add_one, List.getElem?_eq_getElem hlt]; simp [List.getElem?_eq_getElem hlt])
      obtain ⟨fn, tmps, asg, body, hy, hR⟩ := hY (L.take pos) (L.getD pos 0) wn hjn (by rw [List.length_take]; omega)
      rw [Nat.mod_eq_of_lt hd10] at hy
      generalize L.getD pos 0 = d at *
      have hw1 : (48 : Int) + (d : Int) - 48 = (d : Int) := by omega
      go_upto_region 3 with (fail)
      refine (wpIn_wide (n := 4)).1 ?_
      gi_wp2
      refine hR.mono ?_
      rintro e W' (⟨rfl, hJ', hk⟩ | ⟨rfl, hJx'⟩)
      · gi_wp2
        go_wp2
        go_roundg (L.length - (pos + 1))
        case measure => omega
        case rel => exact ⟨pos + 1, by omega, rfl, hk.same _ _ hitn rfl, by rw [HT.out]; exact hJ'⟩
      · gi_wp2
        go_wp2
        refine bodyPost_ret (results_none rfl _ _ _) rfl ?_
        exact ⟨⟨_, rfl⟩, .inr ⟨L.take (pos + 1), List.take_prefix _ _, by rw [HT.out]; exact hJx'⟩⟩
    · obtain rfl : pos = L.length := by omega
      have hnx := fun ty => Go.Lib.run_next_end_at (P := Tryd.prog) wr W.heap.size s L.length ty hit (by rw [hd.size]; omega)
      rw [List.take_length] at hj
      go_wp2
      refine bodyPost_end (results_none rfl _ _ _) rfl ?_
      exact ⟨⟨_, rfl⟩, .inl ⟨L, rfl, hj⟩⟩
theorem digits_stops (B N n : Nat) (s : ByteArray) (L : List Nat) (w : World) (hd : DigTxt s L) (hm : w.cell? ⟨B, 0, none⟩ = some (.string s)) (hN : L.length ≤ N) :
    SeqStopsK Fence.wide n Tryd.prog 92 #[.pointer (some ⟨B, 0, none⟩)] (fun x : Nat => #[.int .i64 ((x % 10 : Nat) : Int)]) KeepsWalks (· = L) (· <+: L) N w := by
  intro l J Jx W hW hJ hJx hY h0
  refine callsIn_wide.2 ?_
  exact dg_c l B N W.heap.size s L J Jx hJ hd (fun pre x W1 hp hl => yieldAt_wide (hY pre x W1 hp hl)) W rfl (bkeep hW hm) h0 hN
/-- what natTxt's letters are -/
def digL (n : Nat) : List Nat := if n = 0 then [0] else (lowD n).reverse
theorem digL_txt (n : Nat) : DigTxt ⟨(natTxt n).toArray⟩ (digL n) := by
  refine ⟨?_, ?_⟩
  · show natTxt n = (digL n).map dig
    unfold natTxt digL
    split
    · rfl
    · rw [asc_eq, List.map_reverse]
  · unfold digL
    split
    · intro d hd; simp at hd; omega
    · intro d hd; exact lowD_lt n d (by simpa using hd)
theorem limbDigits_c (a : Option Addr) (ca : Nat) (l : List Nat) (w : World) (ha : U32 w a ca l) (h1 : l.length ≤ 67108865) :
    Calls Tryd.prog 68 #[.slice a l.length ca] w fun e w' => ∃ B, e = .returned (.func (.func 92) #[] #[.pointer (some ⟨B, 0, none⟩)]) ∧ w'.cell? ⟨B, 0, none⟩ = some (.string ⟨(natTxt (val l)).toArray⟩) ∧ Below w.heap.size w w' := by
  have tc := fun W (h : Below w.heap.size w W) => limbText_c a ca l W (ha.keep h) h1
  go_enter Tryd.func68, Tryd.ntmps68
  go_wp2_with fail
  refine (tc _ (Below.refl _ _)).mono ?_
  rintro e w1 ⟨rfl, hb1⟩
  clear tc
  go_wp2
  go_ret
  exact ⟨_, rfl, cell_new rfl rfl, bal hb1 _⟩
end Go.Proofs.YthaohpfbengabaaDoor

/- integer: Text. -/
namespace Go.Proofs.YthaohpfbengabaaDoor
open Num
open Go.ChangeShapes Go.WideShapes Go.ChangeAt Go.RowKit
set_option linter.unusedVariables false
set_option linter.unusedSimpArgs false
attribute [local go_sem] Oper.semAt_some

/-- the text so far: a variable in memory (block c), its bytes from block base on -/
structure OutS (c base : Nat) (av : Option Addr) (cap : Nat) (L : List UInt8) (W : World) : Prop where
  cell : W.cell? ⟨c, 0, none⟩ = some (.slice av L.length cap)
  free : W.frozen? ⟨c, 0, none⟩ = false
  own : W.ownsRow base 5 1 (.slice av L.length cap) L.length (Lib.byteCells L)
  lt : c < base
theorem own_soft {B base : Nat} {W W' : World} {v : Value} {n : Nat} {xs : List Value} (h : W.ownsRow base 5 1 v n xs) (s : Soft B W W') : W'.ownsRow base 5 1 v n xs := by
  refine ⟨h.1, ?_⟩
  rcases h.2 with hn | ⟨g, cap, cur, rfl, hb, hgg, rest⟩
  · exact .inl hn
  · exact .inr ⟨g, cap, cur, rfl, hb, s.cells _ _ hgg rfl, rest⟩
theorem own_put {base : Nat} {W : World} {v : Value} {n : Nat} {xs : List Value} (h : W.ownsRow base 5 1 v n xs) (p : Addr) (x : Value) (hp : p.block < base) : (W.setCell p x).ownsRow base 5 1 v n xs := by
  refine ⟨h.1, ?_⟩
  rcases h.2 with hn | ⟨g, cap, cur, rfl, hb, hgg, rest⟩
  · exact .inl hn
  · exact .inr ⟨g, cap, cur, rfl, hb, (Below.heap_setCell _ _ _ _ (by omega)).trans hgg, rest⟩
theorem own_shape {base : Nat} {W : World} {v : Value} {L : List UInt8} (h : W.ownsRow base 5 1 v L.length (Lib.byteCells L)) : ∃ a c, v = .slice a L.length c := by
  rcases h.2 with ⟨rfl, h1⟩ | ⟨g, cap, cur, rfl, _⟩
  · exact ⟨none, 0, by rw [h1]⟩
  · exact ⟨_, _, rfl⟩
theorem OutS.soft {c base B : Nat} {av : Option Addr} {cap : Nat} {L : List UInt8} {W W' : World} (h : OutS c base av cap L W) (s : Soft B W W') : OutS c base av cap L W' :=
  ⟨s.cell h.cell, s.frozen h.cell h.free, own_soft h.own s, h.lt⟩
theorem OutS.keep {c base : Nat} {av : Option Addr} {cap : Nat} {L : List UInt8} {W W' : World} (h : OutS c base av cap L W) (hb : Below W.heap.size W W') : OutS c base av cap L W' :=
  ⟨bkeep hb h.cell, bkeepf hb h.cell h.free, own_below (w0 := W) h.own hb, h.lt⟩
/-- what the append and the store behind it leave -/
theorem OutS.next {c base : Nat} {av : Option Addr} {cap : Nat} {L X : List UInt8} {W w' : World} {v' : Value} (h : OutS c base av cap L W) (o : Obj)
    (hown : w'.ownsRow base 5 1 v' (L ++ X).length (Lib.byteCells (L ++ X))) (hg : (W.alloc o).grownBy w' (Value.slice av L.length cap).ownBlock) :
    ∃ av' cap', v' = .slice av' (L ++ X).length cap' ∧ OutS c base av' cap' (L ++ X) (w'.setCell ⟨c, 0, none⟩ v') ∧ KeepsOthers W (w'.setCell ⟨c, 0, none⟩ v') ∧ w'.cell? ⟨c, 0, none⟩ = some (.slice av L.length cap) ∧ w'.frozen? ⟨c, 0, none⟩ = false := by
  obtain ⟨av', cap', rfl⟩ := own_shape hown
  have hne : some c ≠ (Value.slice av L.length cap).ownBlock := fun e => by
    have := (h.own.lt c e.symm).1
    have := h.lt
    omega
  have c0 : w'.cell? ⟨c, 0, none⟩ = some (.slice av L.length cap) := hg.cell (cell_alloc h.cell o) hne
  have cf : w'.frozen? ⟨c, 0, none⟩ = false := by
    rw [World.frozen?_of_block (hg.block c (by have := cell_lt h.cell; simp; omega) hne)]
    exact bkeepf (bal (Below.refl _ _) _) h.cell h.free
  refine ⟨av', cap', rfl, ⟨cell_here c0 _, by rw [World.frozen?_setCell]; exact cf, own_put hown _ _ h.lt, h.lt⟩, ?_, c0, cf⟩
  refine ((KeepsOthers.alloc W o).trans (KeepsOthers.of_grownBy hg ?_)).trans (KeepsOthers.setCell _ _ _)
  intro j o' hj ho'
  rcases (h.own.alloc o).2 with ⟨h0, _⟩ | ⟨g, cap2, cur, h0, hb, hgg, rest⟩
  · rw [h0] at hj; simp [Value.ownBlock] at hj
  · rw [h0] at hj; simp [Value.ownBlock] at hj
    subst hj
    rw [hgg] at ho'; cases ho'; rfl
theorem OutS.str {c base : Nat} {av : Option Addr} {cap : Nat} {L : List UInt8} {W : World} (h : OutS c base av cap L W) : (convert 109 9 (.slice av L.length cap)).run Tryd.prog W = .ok (.string ⟨L.toArray⟩) W := by
  rcases h.own.2 with ⟨h1, h2⟩ | ⟨g, cap2, cur, h1, hb, hgg, rest⟩
  · obtain rfl : L = [] := List.length_eq_zero_iff.1 h2
    cases h1
    exact run_convert_bytes_nil W 109 5 Tryd.underlying109 Tryd.underlying5 0 0 9 Tryd.underlying9
  · cases h1
    have ho := h.own
    refine run_convert_bytes_back W 109 9 5 ⟨g, 0, none⟩ cap L Tryd.underlying109 Tryd.underlying5 Tryd.underlying9 fun j hj => ?_
    have := World.ownsRow.cellAt ho j (by omega)
    rw [bcells_get L j hj] at this
    unfold Addr.add
    split
    · subst_vars; simpa [hj] using this
    · simpa [hj] using this
theorem dig_map (L : List Nat) (h : ∀ d ∈ L, d < 10) : L.map (fun x => dig (x % 10)) = L.map dig := List.map_congr_left fun x hx => by rw [Nat.mod_eq_of_lt (h x hx)]
theorem digL_len {l : List Nat} (hl : Limbs l) (h1 : l.length ≤ 67108865) : (digL (val l)).length ≤ 2147483680 := by
  have h2 := val_lt hl
  rw [BB_pow] at h2
  have h3 := lowD_len _ _ h2
  unfold digL
  split
  · simp
  · rw [List.length_reverse]; omega
/-- a number's text: its sign, its digits -/
theorem intTxt_eq (n : Bool) (V : Nat) (hn : n = true → 0 < V) : intTxt (sg n V) = (if n then [45] else []) ++ (digL V).map (fun x => dig (x % 10)) := by
  have hd := digL_txt V
  have e : natTxt V = (digL V).map dig := hd.1
  rw [dig_map _ hd.2, ← e]
  unfold intTxt
  rw [sg_abs]
  cases n with
  | true => rw [if_pos (by have := hn rfl; simp [sg]; omega)]; rfl
  | false => rw [if_neg (by simp [sg])]; rfl


set_option maxRecDepth 100000 in
set_option maxHeartbeats 8000000 in
theorem intText_c (vx : Value) (x : Int) (k : Nat) (w : World) (hx : IsInt w vx x) (bx : Bd k x) (hk : k ≤ 2147483648) :
    Calls Tryd.prog 34 #[vx] w fun e w' => e = .returned (.string ⟨(intTxt x).toArray⟩) ∧ Below w.heap.size w w' := by
  obtain ⟨n1, a1, c1, l1, rfl, u1, g1, s1, rfl⟩ := hx
  have k1 : l1.length ≤ 67108865 := by
    by_cases h0 : l1 = []
    · subst h0; simp
    · have h1 := nrm_val_pos g1 h0
      rw [BB_pow] at h1
      have h2 : 32 * (l1.length - 1) < k := (Nat.pow_lt_pow_iff_right (a := 2) (by omega)).1 (Nat.lt_of_le_of_lt h1 (sg_bd bx))
      omega
  have HE := Lib.hid (intTxt_eq n1 (val l1) (fun h => by
    have h1 := nrm_val_pos g1 (s1 h)
    have : 0 < BB ^ (l1.length - 1) := Nat.pow_pos BB_pos
    omega))
  have HDL := Lib.hid (digL_len u1.2.2.1 k1)
  have HDT := Lib.hid (digL_txt (val l1))
  clear bx s1
  unfold iv
  obtain ⟨i0, z0, hi0, hz0, hsize0, hby0, hzs0⟩ := el8.info
  refine calls_of_wp_marks Tryd.func34 rfl ?_
  simp only [Tryd.ntmps34, List.size_toArray, List.length_cons, List.length_nil, Nat.reduceAdd, Nat.reduceSub, Array.replicate_succ, Array.replicate_zero, List.push_toArray, List.append_toArray, List.nil_append, List.cons_append, Array.append_empty, Array.empty_append]
  cases n1 with
  | false =>
    go_wp2_with fail
    refine (limbDigits_c a1 c1 l1 _ (u1.keep (bal (bal (Below.refl _ _) _) _)) k1).mono ?_
    rintro e wD ⟨B, rfl, hstr, hbD⟩
    have hO : OutS (w.heap.size + 1) (w.heap.size + 2) none 0 [] wD := OutS.keep ⟨cell_new (by simp) rfl, by rw [World.frozen?_alloc_at (hn := by simp)], World.ownsRow_nil _ _ _ _, by omega⟩ hbD
    have hBD : Below w.heap.size w wD := bthen (bal (bal (Below.refl _ _) _) _) hbD
    have HE := Lib.hid (show intTxt (sg false (val l1)) = ([] : List UInt8) ++ (digL (val l1)).map (fun x => dig (x % 10)) from HE.out)
    have hszD := hbD.size
    have hsD : w.heap.size + 2 ≤ wD.heap.size := by have := cell_lt hO.cell; omega
    go_wp2
    refine wp_rangeK (gf := 92) (lb := #[.pointer (some ⟨B, 0, none⟩)]) (w0 := wD) (L := digL (val l1)) (N := (digL (val l1)).length) (Kp := KeepsWalks) (by simp [Act.eval]) (enters_of Tryd.func92 (by kernel_rfl) rfl)
      (encs := fun x : Nat => #[.int .i64 ((x % 10 : Nat) : Int)]) (digits_stops B _ 8 _ _ wD HDT.out hstr (Nat.le_refl _)) (fun h k => walksK_t h k) (fun W l o o' h1 h2 h3 h4 => walksK_b W l o o' h1 h2 h3 h4) (Below.refl _ _) (fun _ => rfl)
      (fun pre W => (∃ av cap, OutS (w.heap.size + 1) (w.heap.size + 2) av cap (([] : List UInt8) ++ pre.map (fun x => dig (x % 10))) W) ∧ Below w.heap.size w W ∧ wD.heap.size ≤ W.heap.size)
      (fun c pre W => False)
      ?_ ?_ ?_ ?_ ?_
      (fun T x a' W => a' = { tmps := (T.setIfInBounds 13 (.int .i64 ((x % 10 : Nat) : Int))).setIfInBounds 4 (.int .i64 ((x % 10 : Nat) : Int)), defers := [] } ∧ wD.heap.size ≤ W.heap.size)
      ?_ ?_ ?assign0 ?body0 ?done0 ?stop0
    case assign0 =>
      rintro l pre x W K hi hK
      generalize x % 10 = d at *
      gi_wp2
      exact hK _ _ (KeepsFrom.refl _ _) (KeepsWalks.refl _) hi ⟨by simp, hi.2.2⟩
    case body0 =>
      rintro l pre x a' w6 ⟨⟨av6, cap6, hO6⟩, hB6, hs6⟩ ⟨rfl, _⟩ hl
      have hlm : (([] : List UInt8) ++ pre.map (fun x => dig (x % 10))).length ≤ 2147483690 := by
        have := HDL.out
        simp
        omega
      have HLN := Lib.hid (show ([] : List UInt8) ++ (pre ++ [x]).map (fun x => dig (x % 10)) = (([] : List UInt8) ++ pre.map (fun x => dig (x % 10))) ++ [dig (x % 10)] by simp)
      have hd10 : x % 10 < 10 := Nat.mod_lt _ (by omega)
      generalize ([] : List UInt8) ++ pre.map (fun x => dig (x % 10)) = Lp at *
      obtain ⟨bb, hbb⟩ : ∃ bb, bb = dig (x % 10) := ⟨_, rfl⟩
      rw [← hbb] at HLN
      have hb1 : (48 : Int) + ((x % 10 : Nat) : Int) = (bb.toNat : Int) := by rw [hbb, dig_nat hd10]; omega
      have hb2 : (bb.toNat : Int) % 256 = (bb.toNat : Int) := by have := bb.toNat_lt; omega
      clear hbb
      generalize x % 10 = d at *
      have c0 := hO6.cell
      have cf := hO6.free
      have hsz6 := cell_lt c0
      simp only [List.setIfInBounds_toArray, List.set_cons_succ, List.set_cons_zero]
      gi_wp2_with (gi_at_builtin; refine wpListIn_append_own _ rfl _ _ 109 rfl (w.heap.size + 2) 5 i0 z0 1 1 el8.ht hi0 hz0 hsize0 hby0 hzs0 el8.pos (.slice av6 Lp.length cap6) Lp.length (Lib.byteCells Lp) rfl (hO6.own.alloc _) ⟨w6.heap.size, 0, none⟩ 1 1 [.int .u8 (bb.toNat : Int)] rfl rfl (cell_one_new _ _ _) ?_ ?_ ?_ ?_ ?_; (simp [Value.oneCell']); (unfold maxLen; omega); omega; (simp; omega); intro v' w7 hown hg _; obtain ⟨av7, cap7, rfl, hO7, hKO, c7, f7⟩ := OutS.next hO6 (X := [bb]) _ (by rw [bcells_app, List.length_append]; exact hown) hg)
      have hB7 : Below w.heap.size w w7 := (bal hB6 _).grown hg (by simp; omega) (fun k e => by have := (hO6.own.lt k e).1; omega)
      have e7 : (Lp ++ [bb]).length = Lp.length + 1 := by simp
      rw [e7] at hO7 hKO
      have hs7 := hg.size
      simp at hs7
      refine ⟨hKO.from _, hKO.walks, ⟨_, _, by rw [HLN.out]; exact hO7⟩, bset hB7 (by simp) _, by simp; omega⟩
    case done0 =>
      rintro D w8 hDs ⟨⟨av8, cap8, hO8⟩, hB8, hs8⟩ hK0
      rw [← HE.out] at hO8
      have c0 := hO8.cell
      have hst := hO8.str
      go_wp2
      refine ⟨by simp, .inl ⟨_, _, rfl, run_takeDeferred (b := D) (ds := []) hK0, ?_⟩⟩
      refine ⟨.string ⟨(intTxt (sg false (val l1))).toArray⟩, ?_, rfl, b_put hB8 (by omega) _⟩
      simp [results, Tryd.results34, go_sem]
    case stop0 => intro D c pre W _ _ h; cases h
    · rintro pre W W' ⟨⟨av, cap, h⟩, h2, h3⟩ s; exact ⟨⟨av, cap, h.soft s⟩, h2.trans (s.below.mono (by omega)), Nat.le_trans h3 s.below.size⟩
    · exact fun c pre W W' h s => h
    · exact fun pre W h => h.2.2
    · exact fun c pre W h => h.elim
    · exact ⟨⟨_, _, by simpa using hO⟩, hBD, Nat.le_refl _⟩
    · rintro x a' W W' ⟨rfl, h⟩ s; exact ⟨rfl, Nat.le_trans h s.below.size⟩
    · rintro x a' W ⟨rfl, h⟩; exact h
  | true =>
    have hO0 : OutS (w.heap.size + 1) (w.heap.size + 2) none 0 [] ((w.alloc (.cells #[.bool true, .slice a1 l1.length c1] 33)).alloc (.cells #[.slice none 0 0] 109)) := ⟨cell_new (by simp) rfl, by rw [World.frozen?_alloc_at (hn := by simp)], World.ownsRow_nil _ _ _ _, by omega⟩
    have x00 : (((w.alloc (.cells #[.bool true, .slice a1 l1.length c1] 33)).alloc (.cells #[.slice none 0 0] 109)).alloc (.cells #[.int .u8 45] 5)).cell? ⟨w.heap.size, 1, none⟩ = some (.slice a1 l1.length c1) := cell_alloc (cell_alloc (cell_new rfl rfl) _) _
    have hnw : ∀ j u, [Value.int .u8 45][j]? = some u → (((w.alloc (.cells #[.bool true, .slice a1 l1.length c1] 33)).alloc (.cells #[.slice none 0 0] 109)).alloc (.cells #[.int .u8 45] 5)).cell? ((⟨w.heap.size + 1 + 1, 0, none⟩ : Addr).add j) = some u := fun j u hj => by
      have h := cell_one_new ((w.alloc (.cells #[.bool true, .slice a1 l1.length c1] 33)).alloc (.cells #[.slice none 0 0] 109)) (.int .u8 45) 5 j u hj
      simpa using h
    go_wp2_with (at_builtin; go_loud (refine wpList_append_own _ rfl _ _ 109 rfl (w.heap.size + 2) 5 i0 z0 1 1 el8.ht hi0 hz0 hsize0 hby0 hzs0 el8.pos (.slice none 0 0) 0 [] rfl (World.ownsRow_nil _ _ _ _) ⟨w.heap.size + 1 + 1, 0, none⟩ 1 1 [.int .u8 45] rfl rfl hnw ?_ ?_ ?_ ?_ ?_; (simp [Value.oneCell']); (unfold maxLen; omega); omega; (simp); intro v' w7 hown hg _; obtain ⟨av7, cap7, rfl, hO7, hKO, c7, f7⟩ := OutS.next hO0 (X := [45]) _ hown hg; have x1 := hg.cell x00 (by simp [Value.ownBlock])))
    have hB7 : Below w.heap.size w w7 := (bal (bal (bal (Below.refl _ _) _) _) _).grown hg (by simp; omega) (fun k e => by simp [Value.ownBlock] at e)
    have hs7 := hg.size
    simp at hs7
    refine (limbDigits_c a1 c1 l1 _ (u1.keep (bset hB7 (by simp) _)) k1).mono ?_
    rintro e wD ⟨B, rfl, hstr, hbD⟩
    have hO := hO7.keep hbD
    have hBD : Below w.heap.size w wD := bthen (bset hB7 (by simp) _) hbD
    have HE := Lib.hid (show intTxt (sg true (val l1)) = ([45] : List UInt8) ++ (digL (val l1)).map (fun x => dig (x % 10)) from HE.out)
    have hszD := hbD.size
    have hsD : w.heap.size + 2 ≤ wD.heap.size := by have := cell_lt hO.cell; omega
    go_wp2
    refine wp_rangeK (gf := 92) (lb := #[.pointer (some ⟨B, 0, none⟩)]) (w0 := wD) (L := digL (val l1)) (N := (digL (val l1)).length) (Kp := KeepsWalks) (by simp [Act.eval]) (enters_of Tryd.func92 (by kernel_rfl) rfl)
      (encs := fun x : Nat => #[.int .i64 ((x % 10 : Nat) : Int)]) (digits_stops B _ 8 _ _ wD HDT.out hstr (Nat.le_refl _)) (fun h k => walksK_t h k) (fun W l o o' h1 h2 h3 h4 => walksK_b W l o o' h1 h2 h3 h4) (Below.refl _ _) (fun _ => rfl)
      (fun pre W => (∃ av cap, OutS (w.heap.size + 1) (w.heap.size + 2) av cap (([45] : List UInt8) ++ pre.map (fun x => dig (x % 10))) W) ∧ Below w.heap.size w W ∧ wD.heap.size ≤ W.heap.size)
      (fun c pre W => False)
      ?_ ?_ ?_ ?_ ?_
      (fun T x a' W => a' = { tmps := (T.setIfInBounds 13 (.int .i64 ((x % 10 : Nat) : Int))).setIfInBounds 4 (.int .i64 ((x % 10 : Nat) : Int)), defers := [] } ∧ wD.heap.size ≤ W.heap.size)
      ?_ ?_ ?assign0 ?body0 ?done0 ?stop0
    case assign0 =>
      rintro l pre x W K hi hK
      generalize x % 10 = d at *
      gi_wp2
      exact hK _ _ (KeepsFrom.refl _ _) (KeepsWalks.refl _) hi ⟨by simp, hi.2.2⟩
    case body0 =>
      rintro l pre x a' w6 ⟨⟨av6, cap6, hO6⟩, hB6, hs6⟩ ⟨rfl, _⟩ hl
      have hlm : (([45] : List UInt8) ++ pre.map (fun x => dig (x % 10))).length ≤ 2147483690 := by
        have := HDL.out
        simp
        omega
      have HLN := Lib.hid (show ([45] : List UInt8) ++ (pre ++ [x]).map (fun x => dig (x % 10)) = (([45] : List UInt8) ++ pre.map (fun x => dig (x % 10))) ++ [dig (x % 10)] by simp)
      have hd10 : x % 10 < 10 := Nat.mod_lt _ (by omega)
      generalize ([45] : List UInt8) ++ pre.map (fun x => dig (x % 10)) = Lp at *
      obtain ⟨bb, hbb⟩ : ∃ bb, bb = dig (x % 10) := ⟨_, rfl⟩
      rw [← hbb] at HLN
      have hb1 : (48 : Int) + ((x % 10 : Nat) : Int) = (bb.toNat : Int) := by rw [hbb, dig_nat hd10]; omega
      have hb2 : (bb.toNat : Int) % 256 = (bb.toNat : Int) := by have := bb.toNat_lt; omega
      clear hbb
      generalize x % 10 = d at *
      have c0 := hO6.cell
      have cf := hO6.free
      have hsz6 := cell_lt c0
      simp only [List.setIfInBounds_toArray, List.set_cons_succ, List.set_cons_zero]
      gi_wp2_with (gi_at_builtin; refine wpListIn_append_own _ rfl _ _ 109 rfl (w.heap.size + 2) 5 i0 z0 1 1 el8.ht hi0 hz0 hsize0 hby0 hzs0 el8.pos (.slice av6 Lp.length cap6) Lp.length (Lib.byteCells Lp) rfl (hO6.own.alloc _) ⟨w6.heap.size, 0, none⟩ 1 1 [.int .u8 (bb.toNat : Int)] rfl rfl (cell_one_new _ _ _) ?_ ?_ ?_ ?_ ?_; (simp [Value.oneCell']); (unfold maxLen; omega); omega; (simp; omega); intro v' w7 hown hg _; obtain ⟨av7, cap7, rfl, hO7, hKO, c7, f7⟩ := OutS.next hO6 (X := [bb]) _ (by rw [bcells_app, List.length_append]; exact hown) hg)
      have hB7 : Below w.heap.size w w7 := (bal hB6 _).grown hg (by simp; omega) (fun k e => by have := (hO6.own.lt k e).1; omega)
      have e7 : (Lp ++ [bb]).length = Lp.length + 1 := by simp
      rw [e7] at hO7 hKO
      have hs7 := hg.size
      simp at hs7
      refine ⟨hKO.from _, hKO.walks, ⟨_, _, by rw [HLN.out]; exact hO7⟩, bset hB7 (by simp) _, by simp; omega⟩
    case done0 =>
      rintro D w8 hDs ⟨⟨av8, cap8, hO8⟩, hB8, hs8⟩ hK0
      rw [← HE.out] at hO8
      have c0 := hO8.cell
      have hst := hO8.str
      go_wp2
      refine ⟨by simp, .inl ⟨_, _, rfl, run_takeDeferred (b := D) (ds := []) hK0, ?_⟩⟩
      refine ⟨.string ⟨(intTxt (sg true (val l1))).toArray⟩, ?_, rfl, b_put hB8 (by omega) _⟩
      simp [results, Tryd.results34, go_sem]
    case stop0 => intro D c pre W _ _ h; cases h
    · rintro pre W W' ⟨⟨av, cap, h⟩, h2, h3⟩ s; exact ⟨⟨av, cap, h.soft s⟩, h2.trans (s.below.mono (by omega)), Nat.le_trans h3 s.below.size⟩
    · exact fun c pre W W' h s => h
    · exact fun pre W h => h.2.2
    · exact fun c pre W h => h.elim
    · exact ⟨⟨_, _, by simpa using hO⟩, hBD, Nat.le_refl _⟩
    · rintro x a' W W' ⟨rfl, h⟩ s; exact ⟨rfl, Nat.le_trans h s.below.size⟩
    · rintro x a' W ⟨rfl, h⟩; exact h
end Go.Proofs.YthaohpfbengabaaDoor

