/- Texts of this seat, laid together: MxL, MxM, MxN, Dec, TxtR, Vp. Each opens with its own remark, which says what it proves, and under which conditions. -/
import Derived.Test.YthaohpfbengabaaGreatDoorQ12
import Derived.Test.YthaohpfbengabaaGreatDoorQ11
import Derived.Test.YthaohpfbengabaaGreatDoorQ01
import Derived.Test.YthaohpfbengabaaGreatDoorQ10
import Derived.Test.YthaohpfbengabaaGreatDoorQ06
import Derived.Test.YthaohpfbengabaaGreatDoorQ02
import Derived.Laws.IdiomStrings
import Derived.Laws.BytesArg
import Derived.Deep.LoopGhost
set_option linter.unusedVariables false
set_option linter.unusedSimpArgs false
/- matrix: Adjugate's function value. -/
namespace Go.Proofs.YthaohpfbengabaaGreatDoor
open Num
open Go.ChangeShapes Go.WideShapes Go.ChangeAt Go.RowKit
set_option linter.unusedVariables false
set_option linter.unusedSimpArgs false
attribute [local go_sem ↓] Go.wp_at_zero Go.wp_at_succ
/-- what is left of the first rows, without a row and a column -/
def leftG (g : Grid) (j i k : Nat) : Grid := ((g.take k).eraseIdx j).map (·.eraseIdx i)
theorem left_skip {g : Grid} {j i k : Nat} (hk : k < g.length) (h : k = j) : leftG g j i (k + 1) = leftG g j i k := by
  subst h
  unfold leftG
  rw [take_getD [] hk, List.eraseIdx_append_of_length_le (by simp; omega), List.eraseIdx_of_length_le (l := g.take k) (by simp; omega)]
  simp [Nat.min_eq_left (Nat.le_of_lt hk)]
theorem left_next {g : Grid} {j i k : Nat} (hk : k < g.length) (h : k ≠ j) : leftG g j i (k + 1) = leftG g j i k ++ [(g.getD k []).eraseIdx i] := by
  unfold leftG
  rw [take_getD [] hk]
  by_cases e : j < k
  · rw [List.eraseIdx_append_of_lt_length (by simp; omega)]; simp
  · rw [List.eraseIdx_of_length_le (l := g.take k) (by simp; omega), List.eraseIdx_of_length_le (by simp; omega)]; simp
theorem erase_getD {l : List Int} {i k : Nat} : (l.eraseIdx i).getD k 0 = l.getD (Det.skip i k) 0 := by
  unfold Det.skip
  simp only [List.getD_eq_getElem?_getD, List.getElem?_eraseIdx]
  split <;> rfl
theorem left_len (g : Grid) (j i k : Nat) : (leftG g j i k).length ≤ k := by
  unfold leftG
  rw [List.length_map]
  exact Nat.le_trans (List.length_eraseIdx_le _ _) (by rw [List.length_take]; omega)
theorem left_all {g : Grid} {j i : Nat} (hj : j < g.length) : (leftG g j i g.length).length = g.length - 1 := by
  unfold leftG; rw [List.take_length, List.length_map, List.length_eraseIdx_of_lt hj]
theorem left_row {g : Grid} {j i r : Nat} (hj : j < g.length) (hr : r < g.length - 1) : (leftG g j i g.length).getD r [] = (g.getD (Det.skip j r) []).eraseIdx i := by
  unfold leftG Det.skip
  rw [List.take_length, List.getD_eq_getElem?_getD, List.getElem?_map, List.getElem?_eraseIdx, List.getD_eq_getElem?_getD]
  split
  · rw [List.getElem?_eq_getElem (by omega)]; rfl
  · rw [List.getElem?_eq_getElem (by omega)]; rfl
theorem left_gat {g : Grid} {j i r c : Nat} (hj : j < g.length) (hr : r < g.length - 1) : gat (leftG g j i g.length) r c = gat g (Det.skip j r) (Det.skip i c) := by
  unfold gat; rw [left_row hj hr, erase_getD]
theorem left_rct {g : Grid} {j i : Nat} (hj : j < g.length) (hi : i < g.length) (h : Rct g g.length) : Rct (leftG g j i g.length) (leftG g j i g.length).length := by
  intro r hr
  rw [left_all hj] at hr ⊢
  rw [left_row hj hr, List.length_eraseIdx_of_lt]
  · rw [h _ (by unfold Det.skip; split <;> omega)]
  · rw [h _ (by unfold Det.skip; split <;> omega)]; exact hi
theorem left_bd {g : Grid} {j i K : Nat} (hj : j < g.length) (h : BdM K g) : BdM K (leftG g j i g.length) := by
  intro r c
  by_cases e : r < g.length - 1
  · rw [left_gat hj e]; exact h _ _
  · unfold gat
    have h0 : (leftG g j i g.length).getD r [] = [] := by rw [List.getD_eq_getElem?_getD, List.getElem?_eq_none (by rw [left_all hj]; omega)]; rfl
    rw [h0]
    exact bd_zero
theorem left_det {g : Grid} {j i : Nat} (hj : j < g.length) : Det.detE (leftG g j i g.length).length (gat (leftG g j i g.length)) = Det.detE (g.length - 1) (fun r c => gat g (Det.skip j r) (Det.skip i c)) := by
  rw [left_all hj]
  exact Det.detE_congr fun r c hr _ => left_gat hj hr
/-- two rows in a new block -/
theorem isL_two {w : World} {b : Nat} {u1 u2 : Value} {l1 l2 : List Int} {c : Nat} (h1 : w.cell? ⟨b, 0, none⟩ = some u1) (h2 : w.cell? ⟨b, 1, none⟩ = some u2) (hc : 2 ≤ c) (hc2 : c ≤ maxLen) (ht : typOf w b = some 59) (p1 : PSl w u1 l1) (p2 : PSl w u2 l2) :
    IsL 59 PSl 0 w (.slice (some ⟨b, 0, none⟩) 2 c) [l1, l2] := by
  refine ⟨_, c, rfl, hc, hc2, .inr ⟨b, 0, rfl, Nat.zero_le _, ht, fun k hk => ?_⟩⟩
  match k, hk with
  | 0, _ => exact ⟨u1, by simpa using h1, p1⟩
  | 1, _ => exact ⟨u2, by simpa using h2, p2⟩
theorem IntsF.shift {w : World} {b off n d : Nat} {l : List Int} (h : IntsF IsInt w b off n (fun k => l.getD k 0)) {m : Nat} (hm : d + m ≤ n) : IntsF IsInt w b (off + d * 2) m (fun k => (l.drop d).getD k 0) := fun k hk => by
  obtain ⟨nb, a, len, c, k1, k2, k3⟩ := h (d + k) (by omega)
  refine ⟨nb, a, len, c, by rw [show off + d * 2 + k * 2 = off + (d + k) * 2 by omega]; exact k1, by rw [show off + d * 2 + k * 2 + 1 = off + (d + k) * 2 + 1 by omega]; exact k2, ?_⟩
  show IsInt _ _ ((l.drop d).getD k 0)
  rw [List.getD_eq_getElem?_getD, List.getElem?_drop, ← List.getD_eq_getElem?_getD]; exact k3
theorem IntsF.head {w : World} {b off n m : Nat} {l : List Int} (h : IntsF IsInt w b off n (fun k => l.getD k 0)) (hm : m ≤ n) : IntsF IsInt w b off m (fun k => (l.take m).getD k 0) := fun k hk => by
  obtain ⟨nb, a, len, c, k1, k2, k3⟩ := h k (by omega)
  refine ⟨nb, a, len, c, k1, k2, ?_⟩
  show IsInt _ _ ((l.take m).getD k 0)
  rw [List.getD_eq_getElem?_getD, List.getElem?_take_of_lt hk, ← List.getD_eq_getElem?_getD]; exact k3
theorem prow_block {base : Nat} {w : World} {v : Value} {l : List Int} (h : PRow base w v l) (hl : 0 < l.length) : ∃ b off c, v = .slice (some ⟨b, off, none⟩) l.length c ∧ l.length ≤ c ∧ c ≤ maxLen ∧ typOf w b = some 36 ∧ IntsF IsInt w b off l.length (fun k => l.getD k 0) := by
  obtain ⟨a, c, e, hlc, hcm, h⟩ := h
  rcases h with rfl | ⟨b, off, rfl, _, ht, hi⟩
  · simp at hl
  · exact ⟨b, off, c, e, hlc, hcm, ht, hi⟩
theorem detE_bd {g : Grid} {K : Nat} (h1 : 1 ≤ K) (hb : BdM K g) {n : Nat} (hn : g.length = n) : Bd (kb K n) (Det.detE g.length (gat g)) := by
  subst hn
  unfold Det.detE
  split
  · exact bd_zero
  · have h2 := (elR_bd (n := g.length) (m := g.length) (K := K) h1 (fun r c _ _ => hb r c) g.length (Nat.le_refl _)).2
    rcases elR_sgn g.length (gat g) g.length with e | e <;> rw [e]
    · rw [Int.mul_one]; exact h2
    · unfold Bd; rw [Int.mul_neg, Int.mul_one, Int.natAbs_neg]; exact h2
theorem psl_head {W : World} {rb ro n rc i : Nat} {row : List Int} (ht : typOf W rb = some 36) (h : IntsF IsInt W rb ro n (fun k => row.getD k 0)) (hl : row.length = n) (hi : i ≤ n) : PSl W (.slice (some ⟨rb, ro, none⟩) i rc) (row.take i) := by
  have e : (row.take i).length = i := by rw [List.length_take]; omega
  exact ⟨rb, ro, rc, by rw [e], ht, by rw [e]; exact h.head hi⟩
theorem psl_tail {W : World} {rb ro n rc i : Nat} {row : List Int} (ht : typOf W rb = some 36) (h : IntsF IsInt W rb ro n (fun k => row.getD k 0)) (hl : row.length = n) (hi : i < n) : PSl W (.slice (some ⟨rb, ro + (i + 1) * 2, none⟩) (n - (i + 1)) rc) (row.drop (i + 1)) := by
  have e : (row.drop (i + 1)).length = n - (i + 1) := by rw [List.length_drop, hl]
  exact ⟨rb, ro + (i + 1) * 2, rc, by rw [e], ht, by rw [e]; exact h.shift (by omega)⟩
theorem psl_none {W : World} {rb ro n rc i : Nat} {row : List Int} (ht : typOf W rb = some 36) (hl : row.length = n) (hi : n ≤ i + 1) : PSl W (.slice (some ⟨rb, ro, none⟩) (n - (i + 1)) rc) (row.drop (i + 1)) := by
  have e : (row.drop (i + 1)).length = n - (i + 1) := by rw [List.length_drop, hl]
  exact ⟨rb, ro, rc, by rw [e], ht, fun k hk => by rw [e] at hk; omega⟩
theorem erase_flat {n i : Nat} {row : List Int} (hl : row.length = n) (hi : i < n) : [row.take i, row.drop (i + 1)].flatten = row.eraseIdx i ∧ [row.take i, row.drop (i + 1)].flatten.length = n - 1 := by
  have e : [row.take i, row.drop (i + 1)].flatten = row.eraseIdx i := by rw [List.eraseIdx_eq_take_drop_succ]; simp
  exact ⟨e, by rw [e, List.length_eraseIdx_of_lt (by omega), hl]⟩
theorem two_le {k j n : Nat} (hk : k < n) (hj : j < n) (e : k ≠ j) : 2 ≤ n := by omega
theorem len_bd {L k n : Nat} (h : L ≤ k) (h2 : k ≤ n) (h3 : n ≤ 65536) : (L + 1) * 24 ≤ 140737488355328 := by omega
theorem len_bd2 {L k n : Nat} (h : L ≤ k) (h2 : k ≤ n) (h3 : n ≤ 65536) : L + 1 ≤ maxLen := by unfold maxLen; omega
theorem wr_succ {i n : Nat} (h : i < n) (hn : n ≤ 65536) : wrap64 ((i : Int) + 1) = (i : Int) + 1 ∧ IntKind.i64.wrap ((i : Int) + 1) = (i : Int) + 1 ∧ ((i : Int) + 1).toNat = i + 1 ∧ 0 ≤ (i : Int) + 1 ∧ (i : Int) + 1 ≤ (n : Int) := by
  have h1 : wrap64 ((i : Int) + 1) = (i : Int) + 1 := by unfold wrap64; omega
  exact ⟨h1, by rw [IntKind.wrap_i64]; omega, by omega, by omega, by omega⟩
theorem wr_add {i j n : Nat} (h : i < n) (h2 : j < n) (hn : n ≤ 65536) : wrap64 ((i : Int) + j) = (i : Int) + j ∧ IntKind.i64.wrap ((i : Int) + j) = (i : Int) + j := by
  have h1 : wrap64 ((i : Int) + j) = (i : Int) + j := by unfold wrap64; omega
  exact ⟨h1, by rw [IntKind.wrap_i64]; omega⟩
theorem tmod_two (i j : Nat) : ((i : Int) + (j : Int)).tmod 2 = (((i + j) % 2 : Nat) : Int) := by
  rw [Int.tmod_eq_emod_of_nonneg (by omega)]; omega
set_option maxRecDepth 100000 in
set_option maxHeartbeats 8000000 in
theorem adj1_c (mb : Nat) (g : Grid) (K : Nat) (w : World) (hm : BoxM mb w g) (hr : Rct g g.length) (hn : g.length ≤ 65536) (hK1 : 1 ≤ K) (hbd : BdM K g) (hK : kb K (g.length - 1) ≤ 4294967296) :
    FnF (Det.iadj g.length (gat g)) g.length g.length 102 #[.pointer (some ⟨mb, 0, none⟩)] w := by
  intro W i j hi hj hW
  show Calls Tryz.prog 102 #[.int .i64 (i : Nat), .int .i64 (j : Nat), .pointer (some ⟨mb, 0, none⟩)] W _
  have hM := hm.keep hW
  have HM := Lib.hid hM
  have HR := Lib.hid hr
  have HBD := Lib.hid hbd
  obtain ⟨gc, gb, go, -, -, m0, -, -⟩ := hM.row (show 0 < g.length by omega)
  have zm := cell_lt m0
  have hB := Below.refl W.heap.size W
  clear hm hr hbd hW
  obtain ⟨n, hnn⟩ : ∃ n, g.length = n := ⟨_, rfl⟩
  have HN := Lib.hid hnn
  have HDT := Lib.hid (left_det (i := i) hj)
  have HLR := Lib.hid (left_rct hj hi HR.out)
  have HLB := Lib.hid (left_bd (i := i) hj HBD.out)
  have HLA := Lib.hid (left_all (i := i) hj)
  rw [hnn] at m0 hi hj hn hK HDT HLR HLB HLA ⊢
  clear hnn
  go_enter Tryz.func102, Tryz.ntmps102
  go_wp2
  refine wp_name fun w1 hW1 => ?_
  have hB1 : Below W.heap.size W w1 := by rw [hW1]; repeat (first | exact Below.refl _ _ | exact hB | refine Below.drew ?_ | refine below_drewN ?_ _ | refine bset ?_ (by simp <;> omega) _ | refine bal ?_ _)
  have HR1 := Lib.hid (show w1.cell? ⟨W.heap.size, 0, none⟩ = some (.bool false) ∧ w1.cell? ⟨W.heap.size, 1, none⟩ = some (.slice none 0 0) ∧ w1.frozen? ⟨W.heap.size, 0, none⟩ = false ∧ w1.frozen? ⟨W.heap.size, 1, none⟩ = false from by rw [hW1]; simp [go_sem])
  have HM1 := Lib.hid (HM.out.keep hB1)
  have HM0 := Lib.hid (bkeep hB1 m0)
  clear hW1
  have m0 := HM0.out
  have zm := cell_lt m0
  go_wp2
  have hb11 := Below.refl w1.heap.size w1
  go_loopw [6, 13] (fun v x wr => ∃ k : Nat, k ≤ n ∧ x = .int .i64 k ∧ Hid (OwnL 59 (PRow w1.heap.size) w1 wr v (leftG g j i k))) (fun _ x _ => n - (intOf x).toNat)
  case atStart => exact ⟨0, Nat.zero_le _, rfl, Lib.hid (OwnL.nil _ _ hb11)⟩
  case round =>
    obtain ⟨k, hk, rfl, hO⟩ := hrel
    have hBr := hO.out.bel
    by_cases hlt : k < n
    · have hltI : (k : Int) < (n : Int) := by omega
      have hkg : k < g.length := by rw [HN.out]; exact hlt
      obtain ⟨c2, gb2, go2, ra, rc, m2, hu, hp⟩ := (HM1.out.keep hBr).row hkg
      rw [HN.out] at m2
      obtain ⟨rfl, rfl, rfl⟩ : gb = gb2 ∧ go = go2 ∧ gc = c2 := by
        have h1 := Option.some.inj ((bkeep hBr HM0.out).symm.trans m2)
        have h2 := Value.slice.inj h1
        simp at h2
        exact ⟨h2.1.1, h2.1.2, h2.2⟩
      have m0 := bkeep hBr HM0.out
      clear m2
      have hrl := HR.out k hkg
      rw [HN.out] at hrl
      by_cases e : k = j
      · have eI : ((k : Int) != (j : Int)) = false := by simp [e]
        have HS := Lib.hid (left_skip (i := i) hkg e)
        have zm := cell_lt m0
        have zu := cell_lt hu
        clear hp hrl e
        go_wp2
        exact ⟨⟨k + 1, by omega, by go_num, Lib.hid (by rw [HS.out]; exact hO.out)⟩, by simp [intOf]; omega⟩
      · have eI : ((k : Int) != (j : Int)) = true := by simp; omega
        have HS := Lib.hid (left_next (i := i) hkg e)
        have eN := e
        obtain ⟨rb, ro, rc', he, hlc, hcm, ht, hI⟩ := prow_block hp (by rw [hrl]; omega)
        obtain ⟨rfl, -, rfl⟩ := Value.slice.inj he
        rw [hrl] at hu hI hlc
        obtain ⟨row, hrow⟩ : ∃ row, g.getD k [] = row := ⟨_, rfl⟩
        rw [hrow] at HS hI hrl
        have HI := Lib.hid (And.intro ht hI)
        have HRL := Lib.hid hrl
        have zm := cell_lt m0
        have zu := cell_lt hu
        have hiI : (i : Int) ≤ (rc : Int) := by omega
        obtain ⟨hw0, hw1, hw2, hw3, hw4⟩ := wr_succ hi hn
        obtain ⟨hv0, hv1, -, -, -⟩ := wr_succ hlt hn
        have hn2 : 2 ≤ n := two_le hlt hj eN
        have hN1 : 0 < n - 1 := Nat.sub_pos_of_lt hn2
        have hN2 : n - 1 ≤ 1099511627776 := Nat.le_trans (Nat.sub_le _ _) (Nat.le_trans hn (by decide))
        have HP1 := Lib.hid (fun W (q : Below wr.heap.size wr W) (c : Nat) => psl_head (rc := c) (typ_keep HI.out.1 q) (HI.out.2.keep lims_int q) HRL.out (Nat.le_of_lt hi))
        have HP2 := Lib.hid (fun W (q : Below wr.heap.size wr W) (_ : rc ≠ i + 1) => psl_tail (rc := rc - (i + 1)) (typ_keep HI.out.1 q) (HI.out.2.keep lims_int q) HRL.out hi)
        have HP3 := Lib.hid (fun W (q : Below wr.heap.size wr W) (e : rc = i + 1) (c : Nat) => psl_none (ro := ro) (rc := c) (typ_keep HI.out.1 q) HRL.out (show n ≤ i + 1 from e ▸ hlc))
        have HFL := Lib.hid (erase_flat HRL.out hi)
        clear he hp hI ht hrow hrl e
        obtain ⟨la, lc, hlv⟩ := hO.out.ex
        obtain ⟨LL, hLL⟩ : ∃ l, (leftG g j i k).length = l := ⟨_, rfl⟩
        rw [hLL] at hlv
        subst hlv
        have HLL := Lib.hid hLL
        clear hLL
        have hBw := Below.refl wr.heap.size wr
        have hLLk := left_len g j i k
        rw [HLL.out] at hLLk
        have hA1 : (LL + 1) * 24 ≤ 140737488355328 := len_bd hLLk hk hn
        have hA2 : LL + 1 ≤ maxLen := len_bd2 hLLk hk hn
        clear eN
        have cc := fun W u (h : IsL 59 PSl 0 W u [row.take i, row.drop (i + 1)]) => concat_c u [row.take i, row.drop (i + 1)] W h (by rw [HFL.out.2]; exact hN1) (by rw [HFL.out.2]; exact hN2) (by simp)
        rw [HFL.out.1] at cc
        have HO0 := Lib.hid hO.out
        clear hO
        by_cases hrc : rc = i + 1
        · have hiJ : (i : Int) ≤ ((i + 1 : Nat) : Int) := Int.ofNat_le.2 (Nat.le_succ i)
          have hiK : (i : Int) ≤ (i : Int) + 1 := Int.le_add_one (Int.le_refl _)
          go_wp2
          go_region_held3 (fun W => True)
            (first | trivial | fail)
            (first
            | (refine stepL elRow (prs_prow _) (by decide) (by rfl) (by rfl) (HO5.out.below (prs_prow _) (bal (Below.refl _ _) _)) ((prs_prow _).kp HR5.out (Kp.of_below _ (bal (Below.refl _ _) _))) (by rfl) (by rfl) (cell_new rfl rfl) (by rw [HLL.out]; exact hA1) (by rw [HLL.out]; exact hA2) ?_; intro v' w8 hO8 hk8; have HO8 := Lib.hid hO8; clear hO8 hk8)
            | (go_at_call 103; refine (cc _ _ (isL_two ?_ ?_ (by decide) (by unfold maxLen; decide) ?_ (HP1.out _ ?_ (i + 1)) (HP3.out _ ?_ hrc 0))).mono ?_; (first | exact cell_drew (cell_new rfl rfl) | exact cell_new rfl rfl); (first | exact cell_drew (cell_new rfl rfl) | exact cell_new rfl rfl); (exact typ_fresh rfl); (repeat (first | exact Below.refl _ _ | exact hBw | refine Below.drew ?_ | refine below_drewN ?_ _ | refine bset ?_ (by simp <;> omega) _ | refine bal ?_ _)); (repeat (first | exact Below.refl _ _ | exact hBw | refine Below.drew ?_ | refine below_drewN ?_ _ | refine bset ?_ (by simp <;> omega) _ | refine bal ?_ _)); rintro e w5 ⟨⟨v5, rfl, hr5⟩, hb5⟩; have hB5 : Below wr.heap.size wr w5 := bthen (by repeat (first | exact Below.refl _ _ | exact hBw | refine Below.drew ?_ | refine below_drewN ?_ _ | refine bset ?_ (by simp <;> omega) _ | refine bal ?_ _)) hb5; have HR5 := Lib.hid (show PRow w1.heap.size w5 v5 (row.eraseIdx i) from hr5.row.rebase (show w1.heap.size ≤ _ from Nat.le_trans hBr.size (bal (Below.refl wr.heap.size wr) _).size)); have HO5 := Lib.hid (HO0.out.below (prs_prow _) hB5); obtain ⟨a5, c5, rfl⟩ := hr5.ex; clear hr5 hb5)
            | fail)
          all_goals
            rw [← HS.out] at HO8
            go_wp2
            exact ⟨⟨k + 1, hlt, by go_num, HO8⟩, meas hlt (by go_num) rfl⟩
        ·
          go_wp2
          go_region_held3 (fun W => True)
            (first | trivial | fail)
            (first
            | (refine stepL elRow (prs_prow _) (by decide) (by rfl) (by rfl) (HO5.out.below (prs_prow _) (bal (Below.refl _ _) _)) ((prs_prow _).kp HR5.out (Kp.of_below _ (bal (Below.refl _ _) _))) (by rfl) (by rfl) (cell_new rfl rfl) (by rw [HLL.out]; exact hA1) (by rw [HLL.out]; exact hA2) ?_; intro v' w8 hO8 hk8; have HO8 := Lib.hid hO8; clear hO8 hk8)
            | (go_at_call 103; refine (cc _ _ (isL_two ?_ ?_ (by decide) (by unfold maxLen; decide) ?_ (HP1.out _ ?_ rc) (HP2.out _ ?_ hrc))).mono ?_; (first | exact cell_drew (cell_new rfl rfl) | exact cell_new rfl rfl); (first | exact cell_drew (cell_new rfl rfl) | exact cell_new rfl rfl); (exact typ_fresh rfl); (repeat (first | exact Below.refl _ _ | exact hBw | refine Below.drew ?_ | refine below_drewN ?_ _ | refine bset ?_ (by simp <;> omega) _ | refine bal ?_ _)); (repeat (first | exact Below.refl _ _ | exact hBw | refine Below.drew ?_ | refine below_drewN ?_ _ | refine bset ?_ (by simp <;> omega) _ | refine bal ?_ _)); rintro e w5 ⟨⟨v5, rfl, hr5⟩, hb5⟩; have hB5 : Below wr.heap.size wr w5 := bthen (by repeat (first | exact Below.refl _ _ | exact hBw | refine Below.drew ?_ | refine below_drewN ?_ _ | refine bset ?_ (by simp <;> omega) _ | refine bal ?_ _)) hb5; have HR5 := Lib.hid (show PRow w1.heap.size w5 v5 (row.eraseIdx i) from hr5.row.rebase (show w1.heap.size ≤ _ from Nat.le_trans hBr.size (bal (Below.refl wr.heap.size wr) _).size)); have HO5 := Lib.hid (HO0.out.below (prs_prow _) hB5); obtain ⟨a5, c5, rfl⟩ := hr5.ex; clear hr5 hb5)
            | fail)
          all_goals
            rw [← HS.out] at HO8
            go_wp2
            exact ⟨⟨k + 1, hlt, by go_num, HO8⟩, meas hlt (by go_num) rfl⟩
    · obtain rfl : k = n := Nat.le_antisymm hk (Nat.le_of_not_lt hlt)
      have hltI : ¬ (k : Int) < (k : Int) := Int.lt_irrefl _
      obtain ⟨la, lc, hlv⟩ := hO.out.ex
      have HIL : Hid (IsL 59 (PRow 0) 0 wr _ (leftG g j i k)) := Lib.hid ((hO.out.isL.mono fun u x h => h.rebase (Nat.zero_le _)).rebase (Nat.zero_le _))
      subst hlv
      have dc := fun W (q : Below wr.heap.size wr W) => det_c _ (leftG g j i k) K W (HIL.out.keep (prs_prow 0) q) HLR.out (by rw [HLA.out]; exact Nat.le_trans (Nat.sub_le _ _) (Nat.le_trans hn (by decide))) hK1 HLB.out (by rw [HLA.out]; exact hK)
      rw [HDT.out] at dc
      obtain ⟨d, hd⟩ : ∃ d, Det.detE (k - 1) (fun r c => gat g (Det.skip j r) (Det.skip i c)) = d := ⟨_, rfl⟩
      have HDB : Hid (Bd (kb K (k - 1)) d) := Lib.hid (by
        rw [← hd, ← HDT.out]
        exact detE_bd hK1 HLB.out (by rw [HLA.out]))
      have HIA := Lib.hid (show Det.iadj k (gat g) i j = if (i + j) % 2 = 1 then -d else d from by unfold Det.iadj; rw [hd])
      rw [hd] at dc
      obtain ⟨LL, hLL⟩ : ∃ l, (leftG g j i k).length = l := ⟨_, rfl⟩
      rw [hLL] at dc ⊢
      have r0f := bkeepf hBr HR1.out.1 HR1.out.2.2.1
      have r1f := bkeepf hBr HR1.out.2.1 HR1.out.2.2.2
      have r0 := bkeep hBr HR1.out.1
      have r1 := bkeep hBr HR1.out.2.1
      have hBW := bthen hB1 hBr
      have hBw := Below.refl wr.heap.size wr
      have zr := cell_lt r0
      clear hO HIL hd hLL
      go_wp2_with fail
      refine (dc _ (by repeat (first | exact Below.refl _ _ | exact hBw | refine Below.drew ?_ | refine below_drewN ?_ _ | refine bset ?_ (by simp <;> omega) _ | refine bal ?_ _))).mono ?_
      rintro e w5 ⟨⟨v5, rfl, hv5⟩, hb5⟩
      have hb5' : Below wr.heap.size wr w5 := bthen (by repeat (first | exact Below.refl _ _ | exact hBw | refine Below.drew ?_ | refine below_drewN ?_ _ | refine bset ?_ (by simp <;> omega) _ | refine bal ?_ _)) hb5
      have HV5 := Lib.hid hv5
      obtain ⟨n5, a5, c5, l5, rfl, -⟩ := hv5
      unfold iv at *
      replace r0f := bkeepf hb5' r0 r0f
      replace r1f := bkeepf hb5' r1 r1f
      replace r0 := bkeep hb5' r0
      replace r1 := bkeep hb5' r1
      replace zr := cell_lt r0
      have hB5 := bthen hBW hb5'
      obtain ⟨hs1', hs1⟩ := wr_add hi hj hn
      have HTM := Lib.hid (tmod_two i j)
      clear dc hb5 hBw
      by_cases hp : (i + j) % 2 = 1
      · have hs2 : ((i : Int) + (j : Int)).tmod 2 = 1 := by rw [HTM.out, hp]; rfl
        have nc := fun W (q : Below w5.heap.size w5 W) => neg_c _ d W (HV5.out.keep q)
        have hBw5 := Below.refl w5.heap.size w5
        go_wp2_with fail
        refine (nc _ (by repeat (first | exact Below.refl _ _ | exact hBw5 | refine Below.drew ?_ | refine below_drewN ?_ _ | refine bset ?_ (by simp <;> omega) _ | refine bal ?_ _))).mono ?_
        rintro e w6 ⟨⟨v6, rfl, hv6⟩, hb6⟩
        have hb5a : Below w5.heap.size w5 (w5.alloc (.cells #[.bool n5, .slice a5 l5.length c5] 36)) := bal (Below.refl _ _) _
        have d0 := bkeep hb6 (show (w5.alloc (.cells #[.bool n5, .slice a5 l5.length c5] 36)).cell? ⟨w5.heap.size, 0, none⟩ = some (.bool n5) from cell_new rfl rfl)
        have d1 := bkeep hb6 (show (w5.alloc (.cells #[.bool n5, .slice a5 l5.length c5] 36)).cell? ⟨w5.heap.size, 1, none⟩ = some (.slice a5 l5.length c5) from cell_new rfl rfl)
        have d0f := bkeepf hb6 (v := .bool n5) (cell_new rfl rfl) (by simp [go_sem] : (w5.alloc (.cells #[.bool n5, .slice a5 l5.length c5] 36)).frozen? ⟨w5.heap.size, 0, none⟩ = false)
        have d1f := bkeepf hb6 (v := .slice a5 l5.length c5) (cell_new rfl rfl) (by simp [go_sem] : (w5.alloc (.cells #[.bool n5, .slice a5 l5.length c5] 36)).frozen? ⟨w5.heap.size, 1, none⟩ = false)
        have hb6' : Below w5.heap.size w5 w6 := bthen hb5a hb6
        replace r0f := bkeepf hb6' r0 r0f
        replace r1f := bkeepf hb6' r1 r1f
        replace r0 := bkeep hb6' r0
        replace r1 := bkeep hb6' r1
        have hB6 := bthen hB5 hb6'
        have zr6 := cell_lt r0
        have zd6 := cell_lt d0
        have hne6 : ¬ w5.heap.size = W.heap.size := Nat.ne_of_gt zr
        have HP6 := Lib.hid (hv6.put2 d0 d1)
        obtain ⟨n6, a6, c6, l6, rfl, -⟩ := hv6
        unfold iv at *
        have HP7 := Lib.hid ((HP6.out (.bool n6) (.slice a6 l6.length c6)).put2 (cell_far2 r0 hne6 n6 a6 l6.length c6) (cell_far2 r1 hne6 n6 a6 l6.length c6) (.bool n6) (.slice a6 l6.length c6))
        clear nc HV5 HP6 hb6 hb5a
        go_wp2
        refine bodyPost_ret (v := .agg #[.bool n6, .slice a6 l6.length c6]) (by simp [results, Tryz.results102, go_sem, *]) rfl ⟨⟨_, rfl, by rw [HIA.out, if_pos hp]; exact HP7.out⟩, ?_⟩
        repeat (first | exact Below.refl _ _ | exact hB6 | refine Below.drew ?_ | refine below_drewN ?_ _ | refine bset ?_ (by simp <;> omega) _ | refine bal ?_ _)
      · have hs2 : ((i : Int) + (j : Int)).tmod 2 = 0 := by rw [HTM.out, (Nat.mod_two_eq_zero_or_one _).resolve_right hp]; rfl
        have HP6 := Lib.hid ((HV5.out.put2 r0 r1 (.bool n5) (.slice a5 l5.length c5)).keep (bal (Below.refl _ _) (.cells #[.bool n5, .slice a5 l5.length c5] 36)))
        go_wp2
        refine bodyPost_ret (v := .agg #[.bool n5, .slice a5 l5.length c5]) (by simp [results, Tryz.results102, go_sem, *]) rfl ⟨⟨_, rfl, by rw [HIA.out, if_neg hp]; exact HP6.out⟩, ?_⟩
        repeat (first | exact Below.refl _ _ | exact hB5 | refine Below.drew ?_ | refine below_drewN ?_ _ | refine bset ?_ (by simp <;> omega) _ | refine bal ?_ _)
end Go.Proofs.YthaohpfbengabaaGreatDoor

/- matrix: Det, Adjugate; row: Content. -/
namespace Go.Proofs.YthaohpfbengabaaGreatDoor
open Num
open Go.ChangeShapes Go.WideShapes Go.ChangeAt Go.RowKit
set_option linter.unusedVariables false
set_option linter.unusedSimpArgs false
attribute [local go_sem ↓] Go.wp_at_zero Go.wp_at_succ
theorem sq_rct {g : Grid} (h : sqB g = true) (hr : Rct g (cols g)) : Rct g g.length := by
  unfold sqB at h
  simp at h
  rw [h.2]
  exact fun i hi => hr i (by omega)
theorem sq_pos {g : Grid} (h : sqB g = true) : 0 < g.length := by unfold sqB at h; simp at h; exact h.1
/-- what Det answers -/
def DetPost (g : Grid) (w : World) (e : Ending) (w' : World) : Prop :=
  ((sqB g = true ∧ ∃ u, e = .returned (.tuple #[u, .int .i64 0]) ∧ IsInt w' u (Det.detE g.length (gat g))) ∨ (sqB g = false ∧ e = .returned (.tuple #[.agg #[.bool false, .slice none 0 0], .int .i64 5]))) ∧ Below w.heap.size w w'
set_option maxRecDepth 100000 in
set_option maxHeartbeats 4000000 in
theorem detM_c (v : Value) (g : Grid) (K : Nat) (w : World) (hv : IsM 0 w v g) (hr : Rct g (cols g)) (hn : g.length ≤ 65536) (hK1 : 1 ≤ K) (hbd : BdM K g) (hK : kb K g.length ≤ 4294967296) :
    Calls Tryz.prog 11 #[v] w (DetPost g w) := by
  have sc := fun W (q : Below w.heap.size w W) => square_c v g W (hv.keep q)
  obtain ⟨ag, cg, rfl, lv⟩ := hv
  have dc := fun W (q : Below w.heap.size w W) (h : sqB g = true) => det_c (.slice ag g.length cg) g K W (lv.keep (prs_prow 0) q) (sq_rct h hr) (by omega) hK1 hbd hK
  have SC := Lib.hid sc
  have DC := Lib.hid dc
  clear sc dc lv hr hbd
  obtain ⟨N, hN⟩ : ∃ N, g.length = N := ⟨_, rfl⟩
  have HN := Lib.hid hN
  rw [hN] at SC DC hn hK ⊢
  clear hN
  have hB := Below.refl w.heap.size w
  obtain ⟨b, hb⟩ : ∃ b, sqB g = b := ⟨_, rfl⟩
  have HBQ := Lib.hid hb
  rw [hb] at SC
  clear hb
  cases b with
  | true =>
    go_enter Tryz.func11, Tryz.ntmps11
    go_wp2_with fail
    refine (SC.out _ (by repeat (first | exact Below.refl _ _ | exact hB | refine Below.drew ?_ | refine below_drewN ?_ _ | refine bset ?_ (by simp <;> omega) _ | refine bal ?_ _))).mono ?_
    rintro e w1 ⟨rfl, hb1⟩
    have m0 : w1.cell? ⟨w.heap.size, 0, none⟩ = some (.slice ag N cg) := bkc hb1
    have zm0 := cell_lt m0
    have r0 : w1.cell? ⟨w.heap.size + 1, 0, none⟩ = some (.bool false) := bkc hb1
    have zr0 := cell_lt r0
    have r0f : w1.frozen? ⟨w.heap.size + 1, 0, none⟩ = false := bkcf (v := .bool false) hb1
    have r1 : w1.cell? ⟨w.heap.size + 1, 1, none⟩ = some (.slice none 0 0) := bkc hb1
    have r1f : w1.frozen? ⟨w.heap.size + 1, 1, none⟩ = false := bkcf (v := .slice none 0 0) hb1
    have hB : Below w.heap.size w w1 := bthen (by repeat (first | exact Below.refl _ _ | exact hB | refine Below.drew ?_ | refine below_drewN ?_ _ | refine bset ?_ (by simp <;> omega) _ | refine bal ?_ _)) hb1
    have hz : w.heap.size ≤ w1.heap.size := hB.size
    go_wp2_with fail
    refine (DC.out _ (by repeat (first | exact Below.refl _ _ | exact hB | refine Below.drew ?_ | refine below_drewN ?_ _ | refine bset ?_ (by simp <;> omega) _ | refine bal ?_ _)) HBQ.out).mono ?_
    rintro e w2 ⟨⟨u, rfl, hu⟩, hb2⟩
    have m0 : w2.cell? ⟨w.heap.size, 0, none⟩ = some (.slice ag N cg) := bkc hb2
    have zm0 := cell_lt m0
    have r0 : w2.cell? ⟨w.heap.size + 1, 0, none⟩ = some (.bool false) := bkc hb2
    have zr0 := cell_lt r0
    have r0f : w2.frozen? ⟨w.heap.size + 1, 0, none⟩ = false := bkcf (v := .bool false) hb2
    have r1 : w2.cell? ⟨w.heap.size + 1, 1, none⟩ = some (.slice none 0 0) := bkc hb2
    have r1f : w2.frozen? ⟨w.heap.size + 1, 1, none⟩ = false := bkcf (v := .slice none 0 0) hb2
    have hB : Below w.heap.size w w2 := bthen (by repeat (first | exact Below.refl _ _ | exact hB | refine Below.drew ?_ | refine below_drewN ?_ _ | refine bset ?_ (by simp <;> omega) _ | refine bal ?_ _)) hb2
    have hz : w.heap.size ≤ w2.heap.size := hB.size
    have HP := Lib.hid (hu.put2 r0 r1)
    obtain ⟨nu, au, cu, lu, rfl, -⟩ := hu
    unfold iv at *
    clear SC DC
    go_wp2
    refine bodyPost_ret (v := .tuple #[.agg #[.bool nu, .slice au lu.length cu], .int .i64 0]) (by simp [results, Tryz.results11, go_sem, *]) rfl ⟨.inl ⟨HBQ.out, _, rfl, by rw [HN.out]; exact HP.out _ _⟩, ?_⟩
    repeat (first | exact Below.refl _ _ | exact hB | refine Below.drew ?_ | refine below_drewN ?_ _ | refine bset ?_ (by simp <;> omega) _ | refine bal ?_ _)
  | false =>
    go_enter Tryz.func11, Tryz.ntmps11
    go_wp2_with fail
    refine (SC.out _ (by repeat (first | exact Below.refl _ _ | exact hB | refine Below.drew ?_ | refine below_drewN ?_ _ | refine bset ?_ (by simp <;> omega) _ | refine bal ?_ _))).mono ?_
    rintro e w1 ⟨rfl, hb1⟩
    have m0 : w1.cell? ⟨w.heap.size, 0, none⟩ = some (.slice ag N cg) := bkc hb1
    have zm0 := cell_lt m0
    have r0 : w1.cell? ⟨w.heap.size + 1, 0, none⟩ = some (.bool false) := bkc hb1
    have zr0 := cell_lt r0
    have r0f : w1.frozen? ⟨w.heap.size + 1, 0, none⟩ = false := bkcf (v := .bool false) hb1
    have r1 : w1.cell? ⟨w.heap.size + 1, 1, none⟩ = some (.slice none 0 0) := bkc hb1
    have r1f : w1.frozen? ⟨w.heap.size + 1, 1, none⟩ = false := bkcf (v := .slice none 0 0) hb1
    have hB : Below w.heap.size w w1 := bthen (by repeat (first | exact Below.refl _ _ | exact hB | refine Below.drew ?_ | refine below_drewN ?_ _ | refine bset ?_ (by simp <;> omega) _ | refine bal ?_ _)) hb1
    have hz : w.heap.size ≤ w1.heap.size := hB.size
    clear SC DC
    go_wp2
    refine bodyPost_ret (v := .tuple #[.agg #[.bool false, .slice none 0 0], .int .i64 5]) (by simp [results, Tryz.results11, go_sem, *]) rfl ⟨.inr ⟨HBQ.out, rfl⟩, ?_⟩
    repeat (first | exact Below.refl _ _ | exact hB | refine Below.drew ?_ | refine below_drewN ?_ _ | refine bset ?_ (by simp <;> omega) _ | refine bal ?_ _)
/-- the adjugate -/
def adjG (g : Grid) : Grid := tab g.length g.length (Det.iadj g.length (gat g))
set_option maxRecDepth 100000 in
set_option maxHeartbeats 8000000 in
theorem adjM_c (v : Value) (g : Grid) (K : Nat) (w : World) (hv : IsM 0 w v g) (hr : Rct g (cols g)) (hn : g.length ≤ 65536) (hK1 : 1 ≤ K) (hbd : BdM K g) (hK : kb K (g.length - 1) ≤ 4294967296) :
    Calls Tryz.prog 48 #[v] w (MOr (sqB g = true) 5 (adjG g) w) := by
  have sc := fun W (q : Below w.heap.size w W) => square_c v g W (hv.keep q)
  obtain ⟨ag, cg, rfl, lv⟩ := hv
  have rc1 := fun V => rowsM_c ag g.length cg V
  have fc := fun V (q : Below w.heap.size w V) (e1 : V.cell? ⟨w.heap.size, 0, none⟩ = some (.slice ag g.length cg)) (h : sqB g = true) =>
    filled_c g.length g.length (Det.iadj g.length (gat g)) 102 #[.pointer (some ⟨w.heap.size, 0, none⟩)] V (adj1_c w.heap.size g K V (lv.box q e1) (sq_rct h hr) hn hK1 hbd hK) (ens Tryz.func102 (by kernel_rfl) rfl) (by omega) (by omega)
  have SC := Lib.hid sc
  have FC := Lib.hid fc
  have RC1 := Lib.hid rc1
  clear sc fc rc1 lv hr hbd
  unfold adjG
  obtain ⟨FF, hFF⟩ : ∃ FF, Det.iadj g.length (gat g) = FF := ⟨_, rfl⟩
  rw [hFF] at FC ⊢
  clear hFF
  obtain ⟨N, hN⟩ : ∃ N, g.length = N := ⟨_, rfl⟩
  rw [hN] at SC FC RC1 hn hK ⊢
  clear hN
  have hB := Below.refl w.heap.size w
  obtain ⟨b, hb⟩ : ∃ b, sqB g = b := ⟨_, rfl⟩
  have HBQ := Lib.hid hb
  rw [hb] at SC
  clear hb
  cases b with
  | true =>
    go_enter Tryz.func48, Tryz.ntmps48
    go_wp2_with fail
    refine (SC.out _ (by repeat (first | exact Below.refl _ _ | exact hB | refine Below.drew ?_ | refine below_drewN ?_ _ | refine bset ?_ (by simp <;> omega) _ | refine bal ?_ _))).mono ?_
    rintro e w1 ⟨rfl, hb1⟩
    have m0 : w1.cell? ⟨w.heap.size, 0, none⟩ = some (.slice ag N cg) := bkc hb1
    have zm0 := cell_lt m0
    have r0 : w1.cell? ⟨w.heap.size + 1, 0, none⟩ = some (.slice none 0 0) := bkc hb1
    have zr0 := cell_lt r0
    have r0f : w1.frozen? ⟨w.heap.size + 1, 0, none⟩ = false := bkcf (v := .slice none 0 0) hb1
    have hB : Below w.heap.size w w1 := bthen (by repeat (first | exact Below.refl _ _ | exact hB | refine Below.drew ?_ | refine below_drewN ?_ _ | refine bset ?_ (by simp <;> omega) _ | refine bal ?_ _)) hb1
    have hz : w.heap.size ≤ w1.heap.size := hB.size
    have HT1 := Lib.hid (show typOf w1 (w.heap.size + 1) = some 27 from typ_keep (typ_fresh (by simp)) hb1)
    go_wp2
    refine wp_region_grow_tail (w := w1) 5 (by kernel_rfl) (by kernel_rfl) ?_
    simp only [List.take_succ_cons, List.take_zero, List.drop_succ_cons, List.drop_zero]
    have m0g : ∀ gs, (grow w1 gs).cell? ⟨w.heap.size, 0, none⟩ = some (.slice ag N cg) := fun gs => bkeep gs.below m0
    have r0g : ∀ gs, (grow w1 gs).cell? ⟨w.heap.size + 1, 0, none⟩ = some (.slice none 0 0) := fun gs => bkeep gs.below r0
    repeat (go_big_quiet_step ((first | (go_at_call 60; with_reducible exact grow_of (RC1.out _)) | fail)))
    refine wpQuiet_nil ?_
    intro w2 hb2
    clear m0g
    clear r0g
    have m0 := bkeep hb2 m0
    have r0f := bkeepf hb2 r0 r0f
    have r0 := bkeep hb2 r0
    have hB := bthen hB hb2
    have hz := hB.size
    have HT2 := Lib.hid (typ_keep HT1.out hb2)
    clear HT1
    go_wp2_with fail
    refine (FC.out _ hB m0 HBQ.out).mono ?_
    rintro e w3 ⟨⟨v3, rfl, hv3⟩, hb3⟩
    have HT3 := typ_keep HT2.out hb3
    have HV := Lib.hid (hv3.rebase hz)
    obtain ⟨a3, c3, rfl⟩ := hv3.lit
    have m0 := bkeep hb3 m0
    have r0f := bkeepf hb3 r0 r0f
    have r0 := bkeep hb3 r0
    have hB := bthen hB hb3
    have hz := hB.size
    rw [tab_len] at HV ⊢
    clear FC hv3 m0 SC
    go_wp2
    refine bodyPost_ret (v := .tuple #[.agg #[.slice a3 N c3], .int .i64 0]) (by simp [results, Tryz.results48, go_sem, *]) rfl ⟨.inl ⟨HBQ.out, _, rfl, HV.out.setM HT3 _⟩, ?_⟩
    repeat (first | exact Below.refl _ _ | exact hB | refine Below.drew ?_ | refine below_drewN ?_ _ | refine bset ?_ (by simp <;> omega) _ | refine bal ?_ _)
  | false =>
    go_enter Tryz.func48, Tryz.ntmps48
    go_wp2_with fail
    refine (SC.out _ (by repeat (first | exact Below.refl _ _ | exact hB | refine Below.drew ?_ | refine below_drewN ?_ _ | refine bset ?_ (by simp <;> omega) _ | refine bal ?_ _))).mono ?_
    rintro e w1 ⟨rfl, hb1⟩
    have m0 : w1.cell? ⟨w.heap.size, 0, none⟩ = some (.slice ag N cg) := bkc hb1
    have zm0 := cell_lt m0
    have r0 : w1.cell? ⟨w.heap.size + 1, 0, none⟩ = some (.slice none 0 0) := bkc hb1
    have zr0 := cell_lt r0
    have r0f : w1.frozen? ⟨w.heap.size + 1, 0, none⟩ = false := bkcf (v := .slice none 0 0) hb1
    have hB : Below w.heap.size w w1 := bthen (by repeat (first | exact Below.refl _ _ | exact hB | refine Below.drew ?_ | refine below_drewN ?_ _ | refine bset ?_ (by simp <;> omega) _ | refine bal ?_ _)) hb1
    have hz : w.heap.size ≤ w1.heap.size := hB.size
    clear SC FC
    go_wp2
    refine bodyPost_ret (v := .tuple #[.agg #[.slice none 0 0], .int .i64 5]) (by simp [results, Tryz.results48, go_sem, *]) rfl ⟨.inr ⟨by rw [HBQ.out]; decide, rfl⟩, ?_⟩
    repeat (first | exact Below.refl _ _ | exact hB | refine Below.drew ?_ | refine below_drewN ?_ _ | refine bset ?_ (by simp <;> omega) _ | refine bal ?_ _)
set_option maxRecDepth 100000 in
set_option maxHeartbeats 8000000 in
theorem content_c (v : Value) (l : List Int) (k : Nat) (w : World) (hv : PRow 0 w v l) (hl : l.length ≤ 1099511627775) (hb : ∀ j, Bd k (l.getD j 0)) (hk : k ≤ 17179869184) :
    Calls Tryz.prog 105 #[v] w fun e w' => (∃ u, e = .returned u ∧ IsInt w' u (contL l)) ∧ Below w.heap.size w w' := by
  have HV := Lib.hid hv
  have HBD := Lib.hid hb
  have HCB := Lib.hid (contL_bd hb)
  have HC1 := Lib.hid (fun j (h : contL (l.take j) = 1) => contL_one h)
  obtain ⟨va, vc, rfl, -⟩ := hv
  clear hb
  have hB := Below.refl w.heap.size w
  go_enter Tryz.func105, Tryz.ntmps105
  go_wp2
  go_step3
  go_wp2
  refine wp_name fun w0 hW0 => ?_
  have hB0 : Below w.heap.size w w0 := by rw [hW0]; repeat (first | exact Below.refl _ _ | exact hB | refine Below.drew ?_ | refine below_drewN ?_ _ | refine bset ?_ (by simp <;> omega) _ | refine bal ?_ _)
  have HR0 := Lib.hid (show w0.cell? ⟨w.heap.size, 0, none⟩ = some (.bool false) ∧ w0.cell? ⟨w.heap.size, 1, none⟩ = some (.slice none 0 0) ∧ w0.frozen? ⟨w.heap.size, 0, none⟩ = false ∧ w0.frozen? ⟨w.heap.size, 1, none⟩ = false from by rw [hW0]; simp [go_sem])
  have HM0 := Lib.hid (show VarI (w.heap.size + 1) 0 w0 from by rw [hW0]; exact ⟨typ_fresh (by simp), false, none, 0, 0, by simp [go_sem], by simp [go_sem], by simp [go_sem], by simp [go_sem], isInt_zero _⟩)
  clear hW0
  go_step3
  go_wp2
  go_loopw [8] (fun x wr => ∃ j : Nat, j ≤ l.length ∧ x = .int .i64 j ∧ Below w.heap.size w wr ∧ Hid (wr.cell? ⟨w.heap.size, 0, none⟩ = some (.bool false) ∧ wr.cell? ⟨w.heap.size, 1, none⟩ = some (.slice none 0 0) ∧ wr.frozen? ⟨w.heap.size, 0, none⟩ = false ∧ wr.frozen? ⟨w.heap.size, 1, none⟩ = false) ∧ Hid (VarI (w.heap.size + 1) (contL (l.take j)) wr)) (fun x _ => l.length - (intOf x).toNat)
  case atStart => exact ⟨0, Nat.zero_le _, rfl, hB0, HR0, HM0⟩
  case round =>
    obtain ⟨j, hj, rfl, hBr, HR, hM⟩ := hrel
    obtain ⟨-, n0, a0, ln0, c0, m0, m1, m0f, m1f, hi0⟩ := hM.out
    obtain ⟨r0, r1, r0f, r1f⟩ := HR.out
    have HI0 := Lib.hid hi0
    have zm := cell_lt m0
    have zr := cell_lt r0
    have HR' := HR
    clear hi0 HR
    by_cases hlt : j < l.length
    · have hltI : (j : Int) < (l.length : Int) := by omega
      obtain ⟨a', c', he, -, vr⟩ := (HV.out.keep lims_int hBr).view
      obtain ⟨rfl, -, rfl⟩ := Value.slice.inj he
      obtain ⟨b, off, n2, a2, l2, cc2, rfl, d0, d1, hi⟩ := vr j hlt
      have HW := Lib.hid (contL_take hlt)
      have bs := HCB.out j hj
      have bj := HBD.out j
      obtain ⟨x, hx⟩ : ∃ x, l.getD j 0 = x := ⟨_, rfl⟩
      rw [hx] at hi HW bj
      obtain ⟨m, hm⟩ : ∃ m, contL (l.take j) = m := ⟨_, rfl⟩
      rw [hm] at HI0 HW hM bs
      have zd := cell_lt d0
      have gc := fun W (h : Below wr.heap.size wr W) => gcdI_c _ _ m x k W (HI0.out.keep h) (hi.keep h) bs bj hk
      clear hx hm he vr hi bs bj
      have hBw := Below.refl wr.heap.size wr
      go_wp2_with fail
      refine (gc _ (by repeat (first | exact Below.refl _ _ | exact hBw | refine Below.drew ?_ | refine below_drewN ?_ _ | refine bset ?_ (by simp <;> omega) _ | refine bal ?_ _))).mono ?_
      rintro e w2 ⟨⟨u, rfl, hu⟩, hb2⟩
      have hb2' : Below wr.heap.size wr w2 := bthen (by repeat (first | exact Below.refl _ _ | exact hBw | refine Below.drew ?_ | refine below_drewN ?_ _ | refine bset ?_ (by simp <;> omega) _ | refine bal ?_ _)) hb2
      have HU := Lib.hid hu
      obtain ⟨nu, au, cu, lu, rfl, -⟩ := hu
      unfold iv at *
      have HV2 := Lib.hid ((hM.out.keep hb2').put HU.out)
      replace r0f := bkeepf hb2' r0 r0f
      replace r1f := bkeepf hb2' r1 r1f
      replace m0f := bkeepf hb2' m0 m0f
      replace m1f := bkeepf hb2' m1 m1f
      replace r0 := bkeep hb2' r0
      replace r1 := bkeep hb2' r1
      replace m0 := bkeep hb2' m0
      replace m1 := bkeep hb2' m1
      have hB2 := bthen hBr hb2'
      clear gc d0 d1 hb2 HI0
      go_wp2
      refine wp_name fun w3 hW3 => ?_
      have HV3 := Lib.hid (show VarI (w.heap.size + 1) (gcdI m x) w3 from by rw [hW3]; exact HV2.out)
      have HR3 := Lib.hid (show w3.cell? ⟨w.heap.size, 0, none⟩ = some (.bool false) ∧ w3.cell? ⟨w.heap.size, 1, none⟩ = some (.slice none 0 0) ∧ w3.frozen? ⟨w.heap.size, 0, none⟩ = false ∧ w3.frozen? ⟨w.heap.size, 1, none⟩ = false from by
        rw [hW3]
        exact ⟨cell_far2 r0 (by omega) _ _ _ _, cell_far2 r1 (by omega) _ _ _ _, by rw [World.frozen?_setCell, World.frozen?_setCell]; exact r0f, by rw [World.frozen?_setCell, World.frozen?_setCell]; exact r1f⟩)
      have hB3 : Below w.heap.size w w3 := by rw [hW3]; exact bset (bset hB2 (by show w.heap.size ≤ w.heap.size + 1; omega) _) (by show w.heap.size ≤ w.heap.size + 1; omega) _
      clear hW3 HV2 r0 r1 r0f r1f m0 m1 m0f m1f hB2 HU hb2' hM HR'
      rw [← HW.out] at HV3
      obtain ⟨z, hz⟩ : ∃ z, contL (l.take (j + 1)) = z := ⟨_, rfl⟩
      have HZ := Lib.hid hz
      rw [hz] at HV3
      clear hz HW
      obtain ⟨-, n3, a3, ln3, c3, q0, q1, -, -, qI⟩ := HV3.out
      have HQI := Lib.hid qI
      clear qI
      have zq := cell_lt q0
      have oc := fun W => of_c 1 W (by decide) (by decide)
      obtain ⟨c, hc⟩ : ∃ c, cmpI z 1 = c := ⟨_, rfl⟩
      have HC := Lib.hid hc
      have kc := fun vy W (q : Below w3.heap.size w3 W) (hy : IsInt W vy 1) => cmp_c _ vy z 1 W (HQI.out.keep q) hy
      rw [hc] at kc
      clear hc
      have hBx := Below.refl w3.heap.size w3
      have HS := Lib.hid (show ∀ W, Below w3.heap.size w3 W → W.cell? ⟨w.heap.size + 1, 0, none⟩ = some (.bool n3) ∧ W.cell? ⟨w.heap.size + 1, 1, none⟩ = some (.slice a3 ln3 c3) from fun W q => ⟨bkeep q q0, bkeep q q1⟩)
      go_region_held3 (fun W => W.cell? ⟨w.heap.size + 1, 0, none⟩ = some (.bool n3) ∧ W.cell? ⟨w.heap.size + 1, 1, none⟩ = some (.slice a3 ln3 c3))
        (first | (refine HS.out _ ?_; (repeat (first | exact Below.refl _ _ | exact hBx | refine Below.drew ?_ | refine below_drewN ?_ _ | refine bset ?_ (by simp <;> omega) _ | refine bal ?_ _)); done) | fail)
        (first
        | (go_at_call 25; refine (oc _).mono ?_; rintro e w5 ⟨⟨v5, rfl, hi5⟩, hb5⟩; (have hBd : Below w3.heap.size w3 w5 := bthen (by repeat (first | exact Below.refl _ _ | exact hBx | refine Below.drew ?_ | refine below_drewN ?_ _ | refine bset ?_ (by simp <;> omega) _ | refine bal ?_ _)) hb5; clear hBx; have hBx := hBd; clear hBd); have HI5 := Lib.hid hi5; obtain ⟨n5, a5, c5, l5, rfl, -⟩ := hi5; unfold iv at *)
        | (go_at_call 64; refine (kc _ _ ?_ (HI5.out.keep ?_)).mono ?_; (repeat (first | exact Below.refl _ _ | exact hBx | refine Below.drew ?_ | refine below_drewN ?_ _ | refine bset ?_ (by simp <;> omega) _ | refine bal ?_ _)); (have hBy := Below.refl w5.heap.size w5; (repeat (first | exact Below.refl _ _ | exact hBy | refine Below.drew ?_ | refine below_drewN ?_ _ | refine bset ?_ (by simp <;> omega) _ | refine bal ?_ _))); rintro e w6 ⟨rfl, hb6⟩; (have hBd : Below w3.heap.size w3 w6 := bthen (by repeat (first | exact Below.refl _ _ | exact hBx | refine Below.drew ?_ | refine below_drewN ?_ _ | refine bset ?_ (by simp <;> omega) _ | refine bal ?_ _)) hb6; clear hBx; have hBx := hBd; clear hBd))
        | fail)
      all_goals
        have HV6 := Lib.hid (HV3.out.keep hBx)
        obtain ⟨q0, q1⟩ := HS.out _ hBx
        have r0f := bkeepf hBx HR3.out.1 HR3.out.2.2.1
        have r1f := bkeepf hBx HR3.out.2.1 HR3.out.2.2.2
        have r0 := bkeep hBx HR3.out.1
        have r1 := bkeep hBx HR3.out.2.1
        have zq := cell_lt q0
        have zr := cell_lt r0
        have hB6 := bthen hB3 hBx
        have HQ6 := Lib.hid (HQI.out.keep hBx)
        by_cases hc0 : c = 0
        · have hce : (c == 0) = true := by simp [hc0]
          have HZ1 : Hid (z = 1) := Lib.hid (by
            have h := HC.out
            rw [hc0] at h
            unfold cmpI at h
            split at h
            · cases h
            · split at h
              · assumption
              · cases h)
          have HE := Lib.hid (show z = contL l from by rw [HC1.out (j + 1) (by rw [HZ.out]; exact HZ1.out)]; exact HZ1.out)
          have hp := Lib.hid (HQ6.out.put2 r0 r1)
          rw [HE.out] at hp
          clear HV6 HR3 HV3 HS kc oc hb6 hb5 hBx hB3
          go_wp2
          rw [Exit.noGoto_ret]
          refine bodyPost_ret (v := .agg #[.bool n3, .slice a3 ln3 c3]) (by simp [results, Tryz.results105, go_sem, *]) rfl ⟨⟨_, rfl, hp.out _ _⟩, ?_⟩
          repeat (first | exact Below.refl _ _ | exact hB6 | refine Below.drew ?_ | refine below_drewN ?_ _ | refine bset ?_ (by simp <;> omega) _ | refine bal ?_ _)
        · have hce : (c == 0) = false := by simp [hc0]
          have HR6 := Lib.hid (show w6.cell? ⟨w.heap.size, 0, none⟩ = some (.bool false) ∧ w6.cell? ⟨w.heap.size, 1, none⟩ = some (.slice none 0 0) ∧ w6.frozen? ⟨w.heap.size, 0, none⟩ = false ∧ w6.frozen? ⟨w.heap.size, 1, none⟩ = false from ⟨r0, r1, r0f, r1f⟩)
          rw [← HZ.out] at HV6
          clear HR3 HV3 HS kc oc hb6 hb5 hBx hB3 hc0
          go_wp2
          exact ⟨⟨j + 1, hlt, by go_num, hB6, HR6, HV6⟩, meas hlt (by go_num) rfl⟩
    · obtain rfl : j = l.length := by omega
      rw [List.take_length] at HI0
      have hp := Lib.hid (HI0.out.put2 r0 r1)
      go_wp2
      rw [Exit.noGoto_ret]
      refine bodyPost_ret (v := .agg #[.bool n0, .slice a0 ln0 c0]) (by simp [results, Tryz.results105, go_sem, *]) rfl ⟨⟨_, rfl, hp.out _ _⟩, ?_⟩
      repeat (first | exact Below.refl _ _ | exact hBr | refine Below.drew ?_ | refine below_drewN ?_ _ | refine bset ?_ (by simp <;> omega) _ | refine bal ?_ _)
end Go.Proofs.YthaohpfbengabaaGreatDoor

/- matrix: Inverse's function value. -/
namespace Go.Proofs.YthaohpfbengabaaGreatDoor
open Num
open Go.ChangeShapes Go.WideShapes Go.ChangeAt Go.RowKit
set_option linter.unusedVariables false
set_option linter.unusedSimpArgs false
attribute [local go_sem ↓] Go.wp_at_zero Go.wp_at_succ
theorem IsInt.setT {w : World} {v : Value} {z : Int} {p : Addr} (h : IsInt w v z) (ht : typOf w p.block = some 36) (u : Value) : IsInt (w.setCell p u) v z :=
  h.lim (((Kp.refl (fun t => t ≠ 36) w).set (p := p) (fun t ht' => by rw [ht] at ht'; cases ht'; exact fun hh => hh rfl) u).lim (by decide))
theorem IsInt.al {w : World} {v : Value} {z : Int} (h : IsInt w v z) (o : Obj) : IsInt (w.alloc o) v z := h.keep (bal (Below.refl _ _) o)
theorem IsInt.dr {w : World} {v : Value} {z : Int} (h : IsInt w v z) : IsInt w.drew v z := h.keep (Below.refl _ _).drew
set_option maxRecDepth 100000 in
set_option maxHeartbeats 8000000 in
theorem inv1_c (bm bo : Nat) (g : Grid) (n m k : Nat) (c : Int) (w : World) (hg : BoxM bm w g) (hc : VarI bo c w) (lg : g.length = n) (rg : Rct g m) (kg : BdM k g) (bc : Bd k c) (hk : k ≤ 17179869184) (hz : c ≠ 0) :
    FnF (fun i j => gat g i j / c) n m 107 #[.pointer (some ⟨bm, 0, none⟩), .pointer (some ⟨bo, 0, none⟩)] w := by
  intro W i j hi hj hW
  obtain ⟨c1, gb, go, rb, ro, rc, n1, a1, l1, k1, g0, g1, g2, g3, gi⟩ := (hg.keep hW).elem rg (by omega : i < g.length) hj
  rw [lg] at g0
  obtain ⟨-, nc, ac, lc, cc, x0, x1, -, -, xI⟩ := hc.keep hW
  have dc := fun V (q : Below W.heap.size W V) => divmod_c (.agg #[.bool n1, .slice a1 l1 k1]) (.agg #[.bool nc, .slice ac lc cc]) (gat g i j) c k V (gi.keep q) (xI.keep q) (kg i j) bc hk hz
  obtain ⟨q, hq⟩ : ∃ q, gat g i j / c = q := ⟨_, rfl⟩
  have HQ := Lib.hid hq
  rw [hq] at dc
  have DC := Lib.hid dc
  clear hg gi lg rg kg hW hc bc dc xI hz hq
  have hiI : (i : Int) < (n : Int) := by omega
  have hjI : (j : Int) < (m : Int) := by omega
  have z0 := cell_lt g0; have z1 := cell_lt g1; have z2 := cell_lt g2; have z3 := cell_lt x0
  have hB := Below.refl W.heap.size W
  show Calls Tryz.prog 107 #[.int .i64 (i : Nat), .int .i64 (j : Nat), .pointer (some ⟨bm, 0, none⟩), .pointer (some ⟨bo, 0, none⟩)] W _
  dsimp only
  rw [HQ.out]
  go_enter Tryz.func107, Tryz.ntmps107
  go_wp2
  refine wp_name fun w1 hW1 => ?_
  have hBc : Below W.heap.size W w1 := by rw [hW1]; repeat (first | exact Below.refl _ _ | exact hB | refine Below.drew ?_ | refine below_drewN ?_ _ | refine bset ?_ (by simp <;> omega) _ | refine bal ?_ _)
  have HR1 := Lib.hid (show w1.cell? ⟨W.heap.size, 0, none⟩ = some (.bool false) ∧ w1.cell? ⟨W.heap.size, 1, none⟩ = some (.slice none 0 0) ∧ w1.frozen? ⟨W.heap.size, 0, none⟩ = false ∧ w1.frozen? ⟨W.heap.size, 1, none⟩ = false from by rw [hW1]; simp [go_sem])
  clear hW1
  replace g0 := bkeep hBc g0
  replace g1 := bkeep hBc g1
  replace g2 := bkeep hBc g2
  replace g3 := bkeep hBc g3
  replace x0 := bkeep hBc x0
  replace x1 := bkeep hBc x1
  replace z0 := cell_lt g0; replace z1 := cell_lt g1; replace z2 := cell_lt g2; replace z3 := cell_lt x0
  go_cut [7] (fun s7 wx => ∃ qb, s7 = .pointer (some ⟨qb, 0, none⟩) ∧ Hid (VarI qb q wx) ∧ Below w1.heap.size w1 wx)
  case first =>
    have hBj := Below.refl w1.heap.size w1
    have HS := Lib.hid (show ∀ V, Below w1.heap.size w1 V → V.cell? ⟨bm, 0, none⟩ = some (.slice (some ⟨gb, go, none⟩) n c1) ∧ V.cell? ⟨gb, go + i, none⟩ = some (.slice (some ⟨rb, ro, none⟩) m rc) ∧ V.cell? ⟨rb, ro + j * 2, none⟩ = some (.bool n1) ∧ V.cell? ⟨rb, ro + j * 2 + 1, none⟩ = some (.slice a1 l1 k1) ∧ V.cell? ⟨bo, 0, none⟩ = some (.bool nc) ∧ V.cell? ⟨bo, 1, none⟩ = some (.slice ac lc cc) from fun V q => ⟨bkeep q g0, bkeep q g1, bkeep q g2, bkeep q g3, bkeep q x0, bkeep q x1⟩)
    go_region_held3 (fun V => V.cell? ⟨bm, 0, none⟩ = some (.slice (some ⟨gb, go, none⟩) n c1) ∧ V.cell? ⟨gb, go + i, none⟩ = some (.slice (some ⟨rb, ro, none⟩) m rc) ∧ V.cell? ⟨rb, ro + j * 2, none⟩ = some (.bool n1) ∧ V.cell? ⟨rb, ro + j * 2 + 1, none⟩ = some (.slice a1 l1 k1) ∧ V.cell? ⟨bo, 0, none⟩ = some (.bool nc) ∧ V.cell? ⟨bo, 1, none⟩ = some (.slice ac lc cc))
      (first | (refine HS.out _ ?_; (repeat' (first | exact Below.refl _ _ | exact hBj | refine Below.drew ?_ | refine below_drewN ?_ _ | refine bal ?_ _ | refine bset ?_ ?_ _ | exact hla1 | exact Nat.le_trans hla1 (Nat.le_succ _) | exact Nat.le_refl _ | exact Nat.le_succ _)); done) | fail)
      (first
      | (go_at_call 106; refine (DC.out _ (bthen hBc ?_)).mono ?_; (repeat (first | exact Below.refl _ _ | exact hBj | refine Below.drew ?_ | refine below_drewN ?_ _ | refine bset ?_ (by simp <;> omega) _ | refine bal ?_ _)); rintro e w11 ⟨⟨u11, v11, rfl, hu11, hv11⟩, hb11⟩; (have hBd : Below w1.heap.size w1 w11 := bthen (by repeat (first | exact Below.refl _ _ | exact hBj | refine Below.drew ?_ | refine below_drewN ?_ _ | refine bset ?_ (by simp <;> omega) _ | refine bal ?_ _)) hb11; clear hBj; have hBj := hBd; clear hBd); have hc11 := (bcell hb11).1; have hf11 := (bcell hb11).2; have ht11 := tcell hb11; have hla1 := hBj.size; have hs11 := hb11.size; (try simp [go_sem] at hs11); (try have qa : w1.heap.size < w11.heap.size := by omega); (try have qb : w1.heap.size + 1 < w11.heap.size := by omega); have HU11 := Lib.hid hu11; obtain ⟨n11, a11, c11, l11, rfl, -⟩ := hu11; obtain ⟨n12, a12, c12, l12, rfl, -⟩ := hv11; unfold iv at *)
      | fail)
    all_goals
      go_wp2_with fail
      go_meet
      refine (fun hbx => ⟨_, rfl, Lib.hid ⟨?_, n11, a11, l11.length, c11, ?_, ?_, ?_, ?_, ?_⟩, hbx⟩ : Below w1.heap.size w1 _ → _) ?_
      all_goals first
        | (simp (disch := (first | (simp; done) | (simp; omega) | omega)) only [typ_set, typ_alloc_eq, typ_alloc_lt, ht11, typ_drew]; done)
        | (simp [go_sem, *]; done)
        | ((repeat' (first | exact Below.refl _ _ | exact hBj | refine Below.drew ?_ | refine below_drewN ?_ _ | refine bal ?_ _ | refine bset ?_ ?_ _ | exact hla1 | exact Nat.le_trans hla1 (Nat.le_succ _) | exact Nat.le_refl _ | exact Nat.le_succ _)); done)
        | ((repeat' (first | exact HU11.out | refine IsInt.al ?_ _ | refine IsInt.dr ?_ | refine IsInt.setT ?_ ?_ _)) <;> (simp (disch := (first | (simp; done) | (simp; omega) | omega)) only [typ_set, typ_alloc_eq, typ_alloc_lt, ht11, typ_drew]; done))
        | ((repeat (refine cell_far ?_ ?b _; case b => (first | (simp; done) | (simp; omega)))); (first | (refine cell_here (v := .bool false) ?_ _; (repeat (refine cell_far ?_ ?b _; case b => (first | (simp; done) | (simp; omega)))); (simp [go_sem, *]; done)) | (refine cell_here (v := .slice none 0 0) ?_ _; (repeat (refine cell_far ?_ ?b _; case b => (first | (simp; done) | (simp; omega)))); (simp [go_sem, *]; done))))
  case rest =>
    obtain ⟨qb, rfl, hX, hbx⟩ := hcut
    have hBW := bthen hBc hbx
    have r0f := bkeepf hbx HR1.out.1 HR1.out.2.2.1
    have r1f := bkeepf hbx HR1.out.2.1 HR1.out.2.2.2
    have r0 := bkeep hbx HR1.out.1
    have r1 := bkeep hbx HR1.out.2.1
    obtain ⟨-, nq, aq, lq, cq, q0, q1, -, -, qI⟩ := hX.out
    have hp := Lib.hid (qI.put2 r0 r1)
    have zq := cell_lt q0
    have zr := cell_lt r0
    clear qI hX HR1 g0 g1 g2 g3 x0 x1 DC
    go_wp2
    refine bodyPost_ret (v := .agg #[.bool nq, .slice aq lq cq]) (by simp [results, Tryz.results107, go_sem, *]) rfl ⟨⟨_, rfl, hp.out _ _⟩, ?_⟩
    repeat (first | exact Below.refl _ _ | exact hBW | refine Below.drew ?_ | refine below_drewN ?_ _ | refine bset ?_ (by simp <;> omega) _ | refine bal ?_ _)
end Go.Proofs.YthaohpfbengabaaGreatDoor

/- Plain: decimal digits, low one first; nine at a time; a number's text. -/
namespace Go.Proofs.YthaohpfbengabaaGreatDoor.Num
/-- the decimal digits of a number, low one first; none of 0 -/
def lowD : Nat → List Nat
  | 0 => []
  | n + 1 => (n + 1) % 10 :: lowD ((n + 1) / 10)
decreasing_by omega
theorem lowD_zero : lowD 0 = [] := by rw [lowD]
theorem lowD_pos {n : Nat} (h : 0 < n) : lowD n = n % 10 :: lowD (n / 10) := by
  cases n with
  | zero => omega
  | succ n => rw [lowD]
theorem lowD_lt (n : Nat) : ∀ d ∈ lowD n, d < 10 := by
  induction n using Nat.strongRecOn with
  | _ n ih =>
    intro d hd
    by_cases h : 0 < n
    · rw [lowD_pos h] at hd
      rcases List.mem_cons.1 hd with rfl | hd
      · omega
      · exact ih (n / 10) (by omega) d hd
    · obtain rfl : n = 0 := by omega
      rw [lowD_zero] at hd; cases hd
theorem lowD_ne {n : Nat} (h : 0 < n) : lowD n ≠ [] := by rw [lowD_pos h]; simp
theorem lowD_len (k : Nat) : ∀ n, n < 2 ^ k → (lowD n).length ≤ k := by
  induction k with
  | zero => intro n h; obtain rfl : n = 0 := by simpa using h
            rw [lowD_zero]; simp
  | succ k ih =>
    intro n h
    by_cases h0 : 0 < n
    · rw [lowD_pos h0]
      have := ih (n / 10) (by rw [Nat.pow_succ] at h; omega)
      simp; exact this
    · obtain rfl : n = 0 := by omega
      rw [lowD_zero]; simp
/-- the low k digits of a number, with noughts -/
def padD : Nat → Nat → List Nat
  | 0, _ => []
  | k + 1, n => n % 10 :: padD k (n / 10)
theorem padD_len (k n : Nat) : (padD k n).length = k := by
  induction k generalizing n with
  | zero => rfl
  | succ k ih => simp [padD, ih]
theorem padD_snoc (k n : Nat) : padD (k + 1) n = padD k n ++ [n / 10 ^ k % 10] := by
  induction k generalizing n with
  | zero => simp [padD]
  | succ k ih =>
    rw [padD, ih (n / 10)]
    show _ = (n % 10 :: padD k (n / 10)) ++ _
    rw [List.cons_append, Nat.div_div_eq_div_mul, Nat.pow_succ, Nat.mul_comm 10]
/-- a number's digits: its low k, then those of what is above -/
theorem lowD_split (k : Nat) : ∀ n, 10 ^ k ≤ n → lowD n = padD k n ++ lowD (n / 10 ^ k) := by
  induction k with
  | zero => intro n _; simp [padD]
  | succ k ih =>
    intro n h
    have hp : 0 < 10 ^ k := Nat.pow_pos (by omega)
    rw [Nat.pow_succ] at h
    have hn : 0 < n := by omega
    rw [lowD_pos hn, ih (n / 10) (by rw [Nat.le_div_iff_mul_le (by omega)]; exact h), padD, Nat.div_div_eq_div_mul, Nat.pow_succ, Nat.mul_comm 10]
    rfl
/-- of a short number: with noughts above -/
theorem padD_low (k : Nat) : ∀ n, n < 10 ^ k → padD k n = lowD n ++ List.replicate (k - (lowD n).length) 0 ∧ (lowD n).length ≤ k := by
  induction k with
  | zero =>
    intro n h
    obtain rfl : n = 0 := by simpa using h
    simp [padD, lowD_zero]
  | succ k ih =>
    intro n h
    have h2 : n / 10 < 10 ^ k := by rw [Nat.pow_succ] at h; omega
    obtain ⟨e, hl⟩ := ih (n / 10) h2
    by_cases h0 : 0 < n
    · rw [padD, e, lowD_pos h0]
      refine ⟨?_, by simpa using hl⟩
      simp
    · obtain rfl : n = 0 := by omega
      rw [padD, e]
      simp [lowD_zero, List.replicate_succ]
theorem padD_mod (k : Nat) : ∀ n, padD k (n % 10 ^ k) = padD k n := by
  induction k with
  | zero => intro n; rfl
  | succ k ih =>
    intro n
    rw [padD, padD]
    have e1 : n % 10 ^ (k + 1) % 10 = n % 10 := by
      rw [Nat.pow_succ, Nat.mul_comm]
      exact Nat.mod_mul_right_mod n 10 (10 ^ k)
    have e2 : n % 10 ^ (k + 1) / 10 = n / 10 % 10 ^ k := by
      rw [Nat.pow_succ, Nat.mul_comm]
      exact Nat.mod_mul_right_div_self n 10 (10 ^ k)
    rw [e1, e2, ih]
/-- a number nine digits at a time, low ones first -/
def pcs : Nat → List Nat
  | 0 => []
  | n + 1 => (n + 1) % 1000000000 :: pcs ((n + 1) / 1000000000)
decreasing_by omega
theorem pcs_zero : pcs 0 = [] := by rw [pcs]
theorem pcs_pos {n : Nat} (h : 0 < n) : pcs n = n % 1000000000 :: pcs (n / 1000000000) := by
  cases n with
  | zero => omega
  | succ n => rw [pcs]
theorem pcs_lt (n : Nat) : ∀ d ∈ pcs n, d < 1000000000 := by
  induction n using Nat.strongRecOn with
  | _ n ih =>
    intro d hd
    by_cases h : 0 < n
    · rw [pcs_pos h] at hd
      rcases List.mem_cons.1 hd with rfl | hd
      · omega
      · exact ih (n / 1000000000) (by omega) d hd
    · obtain rfl : n = 0 := by omega
      rw [pcs_zero] at hd; cases hd
theorem pcs_ne {n : Nat} (h : 0 < n) : pcs n ≠ [] := by rw [pcs_pos h]; simp
/-- the pieces' digits: the last without noughts above -/
def lowP : List Nat → List Nat
  | [] => []
  | [p] => lowD p
  | p :: q :: l => padD 9 p ++ lowP (q :: l)
theorem lowP_pcs (n : Nat) : lowP (pcs n) = lowD n := by
  induction n using Nat.strongRecOn with
  | _ n ih =>
    by_cases h : 0 < n
    · rw [pcs_pos h]
      by_cases h2 : 0 < n / 1000000000
      · have e := ih (n / 1000000000) (by omega)
        rw [pcs_pos h2] at e ⊢
        rw [lowP, e, lowD_split 9 n (by omega)]
        have := padD_mod 9 n
        rw [show (10 : Nat) ^ 9 = 1000000000 from rfl] at *
        rw [this]
      · have h3 : n / 1000000000 = 0 := by omega
        rw [h3, pcs_zero, lowP, Nat.mod_eq_of_lt (by omega)]
    · obtain rfl : n = 0 := by omega
      rw [pcs_zero, lowD_zero]; rfl
/-- the last piece of a number is not 0 -/
theorem pcs_last (n : Nat) : ∀ h : pcs n ≠ [], 0 < (pcs n).getLast h := by
  induction n using Nat.strongRecOn with
  | _ n ih =>
    intro h
    have hn : 0 < n := by
      rcases Nat.eq_zero_or_pos n with rfl | h'
      · exact absurd pcs_zero h
      · exact h'
    by_cases h2 : 0 < n / 1000000000
    · have h3 := ih (n / 1000000000) (by omega) (pcs_ne h2)
      have e : (pcs n).getLast h = (pcs (n / 1000000000)).getLast (pcs_ne h2) := by
        have : ∀ l (hl : l ≠ []), l = n % 1000000000 :: pcs (n / 1000000000) → l.getLast hl = (pcs (n / 1000000000)).getLast (pcs_ne h2) := by
          intro l hl el; subst el; exact List.getLast_cons (pcs_ne h2)
        exact this _ h (pcs_pos hn)
      rw [e]; exact h3
    · have e : (pcs n).getLast h = n % 1000000000 := by
        have : ∀ l (hl : l ≠ []), l = [n % 1000000000] → l.getLast hl = n % 1000000000 := by
          intro l hl el; subst el; rfl
        exact this _ h (by rw [pcs_pos hn, show n / 1000000000 = 0 by omega, pcs_zero])
      rw [e]
      have : n < 1000000000 := by omega
      rw [Nat.mod_eq_of_lt this]; exact hn
/-- digits as bytes, high one first -/
def asc (l : List Nat) : List UInt8 := l.reverse.map fun d => UInt8.ofNat (48 + d)
theorem asc_append (l m : List Nat) : asc (l ++ m) = asc m ++ asc l := by simp [asc]
theorem lowD_last (n : Nat) : ∀ h : lowD n ≠ [], 0 < (lowD n).getLast h := by
  induction n using Nat.strongRecOn with
  | _ n ih =>
    intro h
    have hn : 0 < n := by
      rcases Nat.eq_zero_or_pos n with rfl | h'
      · exact absurd lowD_zero h
      · exact h'
    by_cases h2 : 0 < n / 10
    · have h3 := ih (n / 10) (by omega) (lowD_ne h2)
      have e : (lowD n).getLast h = (lowD (n / 10)).getLast (lowD_ne h2) := by
        have : ∀ l (hl : l ≠ []), l = n % 10 :: lowD (n / 10) → l.getLast hl = (lowD (n / 10)).getLast (lowD_ne h2) := by
          intro l hl el; subst el; exact List.getLast_cons (lowD_ne h2)
        exact this _ h (lowD_pos hn)
      rw [e]; exact h3
    · have e : (lowD n).getLast h = n % 10 := by
        have : ∀ l (hl : l ≠ []), l = [n % 10] → l.getLast hl = n % 10 := by
          intro l hl el; subst el; rfl
        exact this _ h (by rw [lowD_pos hn, show n / 10 = 0 by omega, lowD_zero])
      rw [e]; omega
/-- a number's text -/
def natTxt (n : Nat) : List UInt8 := if n = 0 then [48] else asc (lowD n)
def intTxt (z : Int) : List UInt8 := (if z < 0 then [45] else []) ++ natTxt z.natAbs
/-- the highest piece, its noughts ahead struck -/
theorem asc_pad_top {p : Nat} (h0 : 0 < p) (h : p < 1000000000) : (asc (padD 9 p)).dropWhile (· == 48) = asc (lowD p) := by
  obtain ⟨e, _⟩ := padD_low 9 p h
  rw [e, asc_append]
  have hz : asc (List.replicate (9 - (lowD p).length) 0) = List.replicate (9 - (lowD p).length) 48 := by simp [asc]
  rw [hz]
  have hd : ∀ (n : Nat) (l : List UInt8), (List.replicate n 48 ++ l).dropWhile (· == 48) = l.dropWhile (· == 48) := by
    intro n l
    induction n with
    | zero => rfl
    | succ n ih => rw [List.replicate_succ, List.cons_append, List.dropWhile_cons]; simp [ih]
  rw [hd]
  have hne := lowD_ne h0
  have hl := lowD_last p hne
  have hlt := lowD_lt p _ (List.getLast_mem hne)
  have e2 : asc (lowD p) = UInt8.ofNat (48 + (lowD p).getLast hne) :: asc (lowD p).dropLast := by
    conv => lhs; rw [← List.dropLast_concat_getLast hne]
    rw [asc_append]; rfl
  have h3 : (UInt8.ofNat (48 + (lowD p).getLast hne) == 48) = false := by
    rw [beq_eq_false_iff_ne]
    intro h
    have := congrArg UInt8.toNat h
    rw [UInt8.toNat_ofNat'] at this
    have h48 : (48 : UInt8).toNat = 48 := rfl
    rw [h48] at this
    omega
  rw [e2, List.dropWhile_cons, if_neg]
  intro h
  have h4 : (UInt8.ofNat (48 + (lowD p).getLast hne) == 48) = true := h
  rw [h3] at h4; cases h4
/-- the pieces from the i-th on -/
theorem lowP_cons {p : Nat} {l : List Nat} (h : l ≠ []) : lowP (p :: l) = padD 9 p ++ lowP l := by
  cases l with
  | nil => exact absurd rfl h
  | cons q l => rfl
theorem asc_len (l : List Nat) : (asc l).length = l.length := by simp [asc]
end Go.Proofs.YthaohpfbengabaaGreatDoor.Num

/- Rows of bytes of the call's own; the reference's Text. -/
namespace Go.Proofs.YthaohpfbengabaaGreatDoor
open Num
open Go.ChangeShapes Go.WideShapes Go.ChangeAt Go.RowKit
set_option linter.unusedVariables false
set_option linter.unusedSimpArgs false
theorem info8 : (Tryz.prog.info? 5).map (fun i => (i.zero, i.size, i.bytes)) = some (some (.int .u8 0), 1, 1) := by kernel_rfl
theorem el8 : Elt Tryz.prog 163 5 1 1 := Elt.mk' Tryz.underlying163 info8 rfl (by decide) (by decide)
/-- bytes of the call's own -/
def Own8 (w0 wr : World) (v : Value) (L : List UInt8) : Prop := OwnE 5 1 w0 wr v L.length (Lib.byteCells L)
theorem Own8.below {w0 wr w' : World} {v : Value} {L : List UInt8} (h : Own8 w0 wr v L) (hb : Below wr.heap.size wr w') : Own8 w0 w' v L := OwnE.below h hb
theorem Own8.nil {w0 wr : World} (hb : Below w0.heap.size w0 wr) : Own8 w0 wr (.slice none 0 0) [] := OwnE.nil _ _ hb
theorem bcells_app (l m : List UInt8) : Lib.byteCells (l ++ m) = Lib.byteCells l ++ Lib.byteCells m := by simp [Lib.byteCells]
theorem bcells_one (l : List UInt8) : ∀ v ∈ Lib.byteCells l, v.oneCell' = true := by
  intro v hv; simp only [Lib.byteCells, List.mem_map] at hv; obtain ⟨x, _, rfl⟩ := hv; rfl
theorem bcells_get (l : List UInt8) (k : Nat) (h : k < l.length) : (Lib.byteCells l)[k]? = some (.int .u8 ((l.getD k 0).toNat : Nat)) := by simp [Lib.byteCells, h]
theorem Own8.ex {w0 wr : World} {v : Value} {L : List UInt8} (h : Own8 w0 wr v L) : (v = .slice none 0 0 ∧ L = []) ∨ ∃ g cap, v = .slice (some ⟨g, 0, none⟩) L.length cap ∧ w0.heap.size ≤ g ∧ L.length ≤ cap := by
  obtain ⟨⟨h0, h⟩, _⟩ := h
  rcases h with ⟨rfl, h1⟩ | ⟨g, cap, cur, rfl, hg, _, hc, _⟩
  · exact .inl ⟨rfl, List.length_eq_zero_iff.1 h1⟩
  · exact .inr ⟨g, cap, rfl, hg, hc⟩
theorem Own8.shape {w0 wr : World} {v : Value} {L : List UInt8} (h : Own8 w0 wr v L) : ∃ a c, v = .slice a L.length c := by
  rcases h.ex with ⟨rfl, rfl⟩ | ⟨g, cap, rfl, _⟩
  · exact ⟨none, 0, rfl⟩
  · exact ⟨_, _, rfl⟩
theorem Own8.cell {w0 wr : World} {g cap : Nat} {L : List UInt8} (h : Own8 w0 wr (.slice (some ⟨g, 0, none⟩) L.length cap) L) (k : Nat) (hk : k < L.length) : wr.cell? ⟨g, k, none⟩ = some (.int .u8 ((L.getD k 0).toNat : Nat)) := by
  rw [World.ownsRow.cellAt h.1 k (by omega), bcells_get L k hk]
theorem Own8.frozen {w0 wr : World} {g cap : Nat} {L : List UInt8} (h : Own8 w0 wr (.slice (some ⟨g, 0, none⟩) L.length cap) L) (k : Nat) : wr.frozen? ⟨g, k, none⟩ = false := World.ownsRow.frozenAt h.1 k
theorem Own8.set {w0 wr : World} {g cap : Nat} {L : List UInt8} (h : Own8 w0 wr (.slice (some ⟨g, 0, none⟩) L.length cap) L) (k : Nat) (x : UInt8) (hg : w0.heap.size ≤ g) : Own8 w0 (wr.setCell ⟨g, k, none⟩ (.int .u8 (x.toNat : Nat))) (.slice (some ⟨g, 0, none⟩) L.length cap) (L.set k x) := by
  obtain ⟨⟨hl, h1⟩, hB⟩ := h
  rcases h1 with ⟨h2, _⟩ | ⟨g', cap', cur, h2, hg', hh, hc, hm, hs, ht⟩
  · cases h2
  · cases h2
    refine ⟨⟨by simp [Lib.byteCells], .inr ⟨g, cap, cur.setIfInBounds k (.int .u8 (x.toNat : Nat)), by simp, hg', ?_, by simpa using hc, hm, by simpa using hs, ?_⟩⟩, bset hB (by exact hg) _⟩
    · unfold World.setCell
      simp only [Array.getElem?_modify, if_true]
      rw [hh]; rfl
    · rw [Array.toList_setIfInBounds, List.length_set, List.take_set, ht]
      simp [Lib.byteCells, List.map_set]
theorem Own8.str {w0 wr : World} {a : Option Addr} {c : Nat} {L : List UInt8} (h : Own8 w0 wr (.slice a L.length c) L) : (convert 163 9 (.slice a L.length c)).run Tryz.prog wr = .ok (.string ⟨L.toArray⟩) wr := by
  rcases h.ex with ⟨h1, h2⟩ | ⟨g, cap, h1, _⟩
  · subst h2
    cases h1
    exact run_convert_bytes_nil wr 163 5 Tryz.underlying163 Tryz.underlying5 0 0 9 Tryz.underlying9
  · cases h1
    refine run_convert_bytes_back wr 163 9 5 ⟨g, 0, none⟩ c L Tryz.underlying163 Tryz.underlying5 Tryz.underlying9 fun j hj => ?_
    have := h.cell j hj
    unfold Addr.add
    split
    · subst_vars; simpa [hj] using this
    · simpa [hj] using this
theorem app8 {ops : Array Oper} {rest : List Oper} {o : Oper} {a : Act} {Q : Exit → Act → World → Prop} {w0 wr : World} {v : Value} {L X : List UInt8} {t : TypeId} (hgd : o.guard = none) {s x : Operand}
    (ho : o.op = .call { callee := .builtin .append, args := #[s, x], argTypes := #[163, 163] }) (hO : Own8 w0 wr v L) (hs : a.eval s = v)
    {c : Nat} (hx : a.eval x = .slice (some ⟨wr.heap.size, 0, none⟩) X.length c) (hn : L.length + X.length ≤ 1099511627776)
    (h : ∀ v' w', Own8 w0 w' v' (L ++ X) → Lim wr w' → Out (fun k => v.ownBlock = some k) wr w' → wpList Tryz.prog ops Q rest (a.put o.dst v') w') : wpList Tryz.prog ops Q (o :: rest) a (wr.alloc (.cells (Lib.byteCells X).toArray t)) := by
  obtain ⟨i, z, hi, hz, hsize, hby, hzs⟩ := el8.info
  refine wpList_append_own _ hgd s x 163 ho w0.heap.size 5 i z 1 1 el8.ht hi hz hsize hby hzs el8.pos v L.length (Lib.byteCells L) hs (hO.1.alloc _) ⟨wr.heap.size, 0, none⟩ X.length c (Lib.byteCells X) hx (by rw [Lib.byteCells_length, Nat.mul_one]) (cells_new wr _ t) (bcells_one X) (by unfold maxLen; omega) (by omega) (by have := hO.2.size; simp; omega) ?_
  intro v' w' hown hg _
  have hl : Lim wr w' := ((Lim.refl wr).alloc _).grown hg fun g hg' ht => (by decide : 5 ≠ 133) (by
    rw [typ_keep (own_typ hO hg') (bal (Below.refl _ _) _)] at ht
    exact Option.some.inj ht)
  exact h v' w' ⟨by rw [bcells_app, List.length_append]; exact hown, below_append (wr := wr) (bal hO.2 _) (hO.1.alloc _) hg⟩ hl (((Out.refl _ wr).alloc _).grown hg fun k hk _ => hk)
namespace Num
def dig (d : Nat) : UInt8 := UInt8.ofNat (48 + d)
theorem dig_nat {d : Nat} (h : d < 10) : (dig d).toNat = 48 + d := by
  unfold dig; rw [UInt8.toNat_ofNat']; omega
theorem asc_eq (l : List Nat) : asc l = (l.map dig).reverse := by unfold asc; rw [← List.map_reverse]; rfl
/-- turned about so far -/
def turned (T : List UInt8) (i : Nat) : List UInt8 := (List.range T.length).map fun j => if j < i ∨ T.length - 1 - j < i then T.getD (T.length - 1 - j) 0 else T.getD j 0
theorem turned_len (T : List UInt8) (i : Nat) : (turned T i).length = T.length := by simp [turned]
theorem turned_get (T : List UInt8) (i j : Nat) (h : j < T.length) : (turned T i).getD j 0 = if j < i ∨ T.length - 1 - j < i then T.getD (T.length - 1 - j) 0 else T.getD j 0 := by
  simp [turned, h]
theorem turned_zero (T : List UInt8) : turned T 0 = T := by
  apply List.ext_getElem
  · simp [turned]
  · intro j h1 h2
    simp [turned, h2]
theorem turned_step {T : List UInt8} {i : Nat} (h : i < T.length / 2) : ((turned T i).set i ((turned T i).getD (T.length - 1 - i) 0)).set (T.length - 1 - i) ((turned T i).getD i 0) = turned T (i + 1) := by
  have e1 : (turned T i).getD i 0 = T.getD i 0 := by rw [turned_get T i i (by omega), if_neg (by omega)]
  have e2 : (turned T i).getD (T.length - 1 - i) 0 = T.getD (T.length - 1 - i) 0 := by rw [turned_get T i _ (by omega), if_neg (by omega)]
  rw [e1, e2]
  apply List.ext_getElem
  · simp [turned]
  · intro j h1 h2
    have hj : j < T.length := by simpa [turned] using h2
    rw [List.getElem_set, List.getElem_set]
    simp only [turned, List.getElem_map, List.getElem_range]
    by_cases h3 : T.length - 1 - i = j
    · rw [if_pos h3, if_pos (by omega)]; congr 1; omega
    · rw [if_neg h3]
      by_cases h4 : i = j
      · rw [if_pos h4, if_pos (by omega), h4]
      · rw [if_neg h4]
        by_cases h5 : j < i ∨ T.length - 1 - j < i
        · rw [if_pos h5, if_pos (by omega)]
        · rw [if_neg h5, if_neg (by omega)]
theorem turned_end (T : List UInt8) {i : Nat} (h : T.length / 2 ≤ i) : turned T i = T.reverse := by
  apply List.ext_getElem
  · simp [turned]
  · intro j h1 h2
    have hj : j < T.length := by simpa [turned] using h1
    simp only [turned, List.getElem_map, List.getElem_range, List.getElem_reverse]
    by_cases h5 : j < i ∨ T.length - 1 - j < i
    · rw [if_pos h5]; simp [show T.length - 1 - j < T.length by omega]
    · rw [if_neg h5]
      have e : T.length - 1 - j = j := by omega
      simp only [e]; simp [hj]
theorem intTxt_zero : intTxt 0 = [48] := by simp [intTxt, natTxt]
theorem intTxt_sg {neg : Bool} {V : Nat} (hV : 0 < V) : intTxt (sg neg V) = ((lowD V).map dig ++ (if neg then [45] else [])).reverse := by
  unfold intTxt natTxt
  rw [sg_abs, if_neg (by omega : ¬ V = 0), asc_eq]
  cases neg with
  | true => rw [if_pos (by simp [sg]; omega)]; simp
  | false => rw [if_neg (by simp [sg])]; simp
end Num


set_option maxRecDepth 100000 in
set_option maxHeartbeats 8000000 in
theorem rtext_c (vx : Value) (x : Int) (k : Nat) (w : World) (hx : IsRef w vx x) (bx : Bd k x) (hk : k ≤ 1073741824) :
    Calls Tryz.prog 72 #[vx] w fun e w' => e = .returned (.string ⟨(intTxt x).toArray⟩) ∧ Below w.heap.size w w' := by
  obtain ⟨n1, a1, c1, l1, rfl, u1, q1, g1, s1, rfl⟩ := hx
  have k1 : l1.length ≤ 67108865 := by
    by_cases h0 : l1 = []
    · subst h0; simp
    · have h1 := NumR.nrm_val_pos g1 h0
      rw [NumR.BB_pow] at h1
      have h2 : 16 * (l1.length - 1) < k := (Nat.pow_lt_pow_iff_right (a := 2) (by omega)).1 (Nat.lt_of_le_of_lt h1 (rsg_bd bx))
      omega
  have HX := Lib.hid (And.intro s1 bx)
  have HPL := Lib.hid (show (lowD (NumR.val l1)).length ≤ 1073741824 from Nat.le_trans (lowD_len k _ (rsg_bd bx)) hk)
  clear bx s1
  unfold iv
  have hB := Below.refl w.heap.size w
  go_enter Tryz.func72, Tryz.ntmps72
  go_wp2
  refine wp_name fun w0 hW0 => ?_
  have x0 : w0.cell? ⟨w.heap.size, 0, none⟩ = some (.bool n1) := by rw [hW0]; exact (by first | assumption | exact cell_new (by with_reducible first | rfl | (simp; done) | (simp; omega)) rfl | (repeat (first | assumption | exact cell_new (by with_reducible first | rfl | (simp; done) | (simp; omega)) rfl | refine cell_alloc ?_ _ | refine cell_drew ?_ | refine cell_drewN ?_ _ | refine cell_far ?_ (by simp) _ | (refine cell_far ?_ (by simp <;> omega) _))) | simp [go_sem, *])
  have zx0 := cell_lt x0
  have x1 : w0.cell? ⟨w.heap.size, 1, none⟩ = some (.slice a1 l1.length c1) := by rw [hW0]; exact (by first | assumption | exact cell_new (by with_reducible first | rfl | (simp; done) | (simp; omega)) rfl | (repeat (first | assumption | exact cell_new (by with_reducible first | rfl | (simp; done) | (simp; omega)) rfl | refine cell_alloc ?_ _ | refine cell_drew ?_ | refine cell_drewN ?_ _ | refine cell_far ?_ (by simp) _ | (refine cell_far ?_ (by simp <;> omega) _))) | simp [go_sem, *])
  have hB : Below w.heap.size w w0 := by rw [hW0]; repeat (first | exact Below.refl _ _ | exact hB | refine Below.drew ?_ | refine below_drewN ?_ _ | refine bset ?_ (by simp <;> omega) _ | refine bal ?_ _)
  have hz : w.heap.size ≤ w0.heap.size := hB.size
  clear hW0
  have hu0 := u1.keep hB
  go_loopg [3, 4] (NumR.val l1) (fun gk d v wr => ∃ (P : List Nat) (ad : Option Addr) (cd : Nat) (L : List Nat), v = .slice ad L.length cd ∧ U32 wr ad cd L ∧ NumR.Limbs L ∧ Nrm L ∧ L.length ≤ 67108865 ∧ gk = NumR.val L ∧ Own8 w0 wr d (P.map dig) ∧ lowD (NumR.val l1) = P ++ lowD (NumR.val L))
  case atStart => exact ⟨[], a1, c1, l1, rfl, hu0, q1, g1, k1, rfl, Own8.nil (Below.refl _ _), rfl⟩
  case round =>
    obtain ⟨P, ad, cd, L, rfl, hu, hl, hn, hlm, hgk, hO, hP⟩ := hrel
    have HP := Lib.hid (And.intro hgk hP)
    clear hgk hP
    have hPl : P.length ≤ 1073741824 := by have h1 := congrArg List.length HP.out.2; have h2 := HPL.out; rw [h1, List.length_append] at h2; omega
    have hPm : (P.map dig).length ≤ 1073741824 := by simpa using hPl
    by_cases hL : 0 < L.length
    · have hLz : (0 : Int) < (L.length : Int) := by omega
      have hv0 : 0 < NumR.val L := by
        have h1 := NumR.nrm_val_pos hn (List.length_pos_iff.1 hL)
        have : 0 < NumR.BB ^ (L.length - 1) := Nat.pow_pos NumR.BB_pos
        omega
      have dc := fun (g : Nat) (W : World) (h : Below wr.heap.size wr W) (hg : g = W.heap.size) => rdivide_c ad (some ⟨g, 0, none⟩) cd 1 L [10] (W.alloc (.cells (cel [10]).toArray 133)) (hu.keep (bal h _)) ((blk_at hg).u32 (fun x hx => by simp at hx; subst hx; unfold BB; omega) (by simp [maxLen])) hl (fun x hx => by simp at hx; subst hx; unfold NumR.BB; omega) hn (fun _ => by simp) (by simp [NumR.val]) (by omega) (by simp)
      rw [show NumR.val [10] = 10 by simp [NumR.val]] at dc
      simp only [List.length_cons, List.length_nil, Nat.zero_add] at dc
      go_wp2_with fail
      refine (dc _ _ (Below.refl _ _) rfl).mono ?_
      rintro e w2 ⟨⟨u, v, rfl, hq, hr⟩, hb2⟩
      have hO2 := hO.below (bthen (bal (Below.refl _ _) _) hb2)
      clear dc hO hu
      obtain ⟨aq, cq, Lq, rfl, hqu, hql, hqn, hqv⟩ := hq
      obtain ⟨ar, cr, Lr, rfl, hru, hrl, hrn, hrv⟩ := hr
      have hLqm : Lq.length ≤ 67108865 := by
        apply Nat.le_trans _ hlm
        apply Nat.le_of_not_lt; intro h
        have := NumR.val_lt_of_len hl hqn h
        omega
      have HV := Lib.hid (And.intro hqv hrv)
      have HN := Lib.hid (show lowD (NumR.val L) = NumR.val L % 10 :: lowD (NumR.val L / 10) from lowD_pos hv0)
      have HLT := Lib.hid (show NumR.val L / 10 < NumR.val L by omega)
      clear hqv
      by_cases hc : NumR.val L % 10 = 0
      · obtain rfl : Lr = [] := (NumR.val_nil_iff hrn).1 (by rw [hrv]; exact hc)
        have HC := Lib.hid hc
        clear hc hrv
        go_wp2_with (at_builtin; refine app8 (X := [48]) rfl rfl hO2 rfl rfl ?_ ?_; (simp; omega); intro v' w3 hO3 hlim3 _)
        go_roundg (NumR.val L / 10)
        case measure => rw [HP.out.1]; exact HLT.out
        case rel => exact ⟨P ++ [0], aq, cq, Lq, rfl, hqu.lim hlim3, hql, hqn, hLqm, HV.out.1.symm, by simpa [show dig 0 = 48 from rfl] using hO3, by rw [HV.out.1, HP.out.2, HN.out, HC.out]; simp⟩
      · obtain ⟨c, rfl⟩ : ∃ c, Lr = [c] := by
          apply List.length_eq_one_iff.1
          have h1 : Lr ≠ [] := by intro e; subst e; apply hc; rw [← hrv]; rfl
          have h2 := NumR.nrm_val_pos hrn h1
          have h3 := List.length_pos_iff.2 h1
          have h4 : Lr.length - 1 = 0 := by
            apply Nat.eq_zero_of_not_pos; intro h
            have h5 : NumR.BB ^ 1 ≤ NumR.BB ^ (Lr.length - 1) := Nat.pow_le_pow_right NumR.BB_pos h
            have h6 : NumR.val L % 10 < 10 := Nat.mod_lt _ (by omega)
            unfold NumR.BB at *
            omega
          omega
        have hce : c = NumR.val L % 10 := by rw [← hrv]; simp [NumR.val]
        rcases hru.2.2.2 with h0 | ⟨br, or', rfl, hcr⟩
        · cases h0
        have c0 := hcr 0 (by simp)
        simp only [List.getD_cons_zero, Nat.add_zero] at c0
        have hc10' : c < 10 := by omega
        have HC := Lib.hid hce
        clear hc hce hrv hcr hru
        -- the digit c is put on
        have hc10 : c < 10 := by omega
        obtain ⟨bb, hbb⟩ : ∃ bb, bb = dig (c) := ⟨_, rfl⟩
        have hb1 : (48 : Int) + ((c : Nat) : Int) = (bb.toNat : Int) := by rw [hbb, dig_nat hc10]; omega
        have hb2 : (bb.toNat : Int) % 256 = (bb.toNat : Int) := by have := bb.toNat_lt; omega
        have hb3 : IntKind.u32.wrap (bb.toNat : Int) = (bb.toNat : Int) := w32 (by have := bb.toNat_lt; unfold BB; omega)
        have HBB := Lib.hid hbb
        clear hbb
        go_wp2_with (at_builtin; refine app8 (X := [bb]) rfl rfl hO2 rfl rfl ?_ ?_; (simp; omega); intro v' w3 hO3 hlim3 _)
        go_roundg (NumR.val L / 10)
        case measure => rw [HP.out.1]; exact HLT.out
        case rel => exact ⟨P ++ [c], aq, cq, Lq, rfl, hqu.lim hlim3, hql, hqn, hLqm, HV.out.1.symm, by rw [HBB.out] at hO3; simpa using hO3, by rw [HV.out.1, HP.out.2, HN.out, HC.out]; simp⟩
    · obtain rfl : L = [] := List.length_eq_zero_iff.1 (by omega)
      have hPN := HP.out.2
      rw [show NumR.val [] = 0 from rfl, lowD_zero, List.append_nil] at hPN
      have x0w := x0
      have hB2 := bthen hB hO.2
      have y0 := bkeep hO.2 x0
      by_cases hP0 : P = []
      · subst hP0
        have hN0 : NumR.val l1 = 0 := by
          apply Nat.eq_zero_of_not_pos; intro h
          exact lowD_ne h hPN
        have HE := Lib.hid (show intTxt (sg n1 (NumR.val l1)) = [48] by rw [hN0]; cases n1 <;> simp [sg, intTxt_zero])
        obtain ⟨a9, c9, rfl⟩ := hO.shape
        clear hPN hN0 hu hO
        simp only [List.map_nil, List.length_nil]
        go_wp2
        go_ret
        exact ⟨by rw [HE.out]; rfl, hB2⟩
      · have hN0 : 0 < NumR.val l1 := by
          apply Nat.pos_of_ne_zero; intro h
          rw [h, lowD_zero] at hPN
          exact hP0 hPN.symm
        have HE := Lib.hid (show intTxt (sg n1 (NumR.val l1)) = (P.map dig ++ (if n1 then [45] else [])).reverse by rw [intTxt_sg hN0, hPN])
        have hPz : (((P.map dig).length : Int) == 0) = false := by rw [beq_eq_false_iff_ne]; simp; exact hP0
        obtain ⟨a8, c8, rfl⟩ := hO.shape
        clear hPN hN0 hu hP0
        cases n1 with
        | true =>
          simp only [if_true] at HE
          generalize P.map dig = S at *
          go_wp2_with (at_builtin; refine app8 (X := [45]) rfl rfl hO rfl rfl ?_ ?_; (simp; omega); intro v' w3 hO3 _ _; (obtain ⟨a8, c8, rfl⟩ := hO3.shape); (have hTm : (S ++ [45]).length ≤ 1073741825 := by simp; omega); clear hO; generalize S ++ [45] = T at *)
          go_loopw [8] (fun x wi => ∃ i : Nat, i ≤ T.length / 2 ∧ x = .int .i64 i ∧ Own8 w0 wi (.slice a8 T.length c8) (turned T i)) (fun x _ => T.length / 2 - (intOf x).toNat)
          case atStart => exact ⟨0, Nat.zero_le _, rfl, by rw [turned_zero]; exact hO3⟩
          case round =>
            rename World => wi
            obtain ⟨i, hi, rfl, hOi⟩ := hrel
            have hlen := turned_len T i
            by_cases hlt : i < T.length / 2
            · have hltz : (i : Int) < (T.length : Int) / 2 := by omega
              have hltz2 : (i : Int) < (T.length : Int).tdiv 2 := by rw [Int.tdiv_eq_ediv_of_nonneg (by omega)]; exact hltz
              have hOi' := hOi
              rw [← hlen] at hOi'
              rcases hOi'.ex with ⟨h0, hT⟩ | ⟨g, cap, hv, hg, hcap⟩
              · exfalso; rw [hT] at hlen; simp at hlen; omega
              cases hv
              obtain ⟨j, hj⟩ : ∃ j, j = T.length - 1 - i := ⟨_, rfl⟩
              have q0 := hOi'.cell i (by omega)
              have q1 := hOi'.cell j (by omega)
              have qf := hOi'.frozen i
              have qg := hOi'.frozen j
              have HS := Lib.hid (turned_step hlt)
              rw [← hj] at HS
              have hO4 := hOi'.set i ((turned T i).getD j 0) hg
              have hO5 := (show Own8 w0 _ (.slice (some ⟨g, 0, none⟩) ((turned T i).set i ((turned T i).getD j 0)).length c8) _ by rw [List.length_set]; exact hO4).set j ((turned T i).getD i 0) hg
              rw [HS.out, List.length_set, hlen] at hO5
              have HO5 := Lib.hid hO5
              have g1 : (T.length : Int) - 1 - (i : Int) = (j : Int) := by omega
              have g2 : IntKind.i64.wrap ((T.length : Int) - 1) = (T.length : Int) - 1 := by rw [IntKind.wrap_i64]; omega
              have g3 : IntKind.i64.wrap ((T.length : Int) - 1 - (i : Int)) = (j : Int) := by rw [IntKind.wrap_i64]; omega
              have hji : i ≠ j := by omega
              have hij : j ≠ i := by omega
              have hiT : (i : Int) < (T.length : Int) := by omega
              have hjT : (j : Int) < (T.length : Int) := by omega
              clear hO4 hO5 hOi hOi' hlen hj
              generalize (turned T i).getD j 0 = bj at *
              generalize (turned T i).getD i 0 = bi at *
              go_wp2
              go_region
              all_goals
                go_wp2
                refine ⟨⟨i + 1, by omega, by go_num, ?_⟩, by simp [intOf] <;> omega⟩
                exact ⟨HO5.out.1, HO5.out.2.drew⟩
            · have HO := Lib.hid (show Own8 w0 wi (.slice a8 T.length c8) T.reverse by rw [← turned_end T (i := i) (Nat.le_of_not_lt hlt)]; exact hOi)
              have hcv := (show Own8 w0 wi (.slice a8 T.reverse.length c8) T.reverse by rw [List.length_reverse]; exact HO.out).str
              rw [List.length_reverse, ← HE.out] at hcv
              have hB9 := bthen hB HO.out.2
              have hltz : ¬ (i : Int) < (T.length : Int) / 2 := by omega
              have hltz2 : ¬ (i : Int) < (T.length : Int).tdiv 2 := by rw [Int.tdiv_eq_ediv_of_nonneg (by omega)]; exact hltz
              clear hOi hlen
              go_wp2
              go_ret
              exact ⟨rfl, hB9⟩
        | false =>
          simp only [Bool.false_eq_true, if_false, List.append_nil] at HE
          generalize P.map dig = T at *
          have hTm : T.length ≤ 1073741825 := by omega
          have hO3 := hO
          clear hO
          go_wp2
          go_loopw [8] (fun x wi => ∃ i : Nat, i ≤ T.length / 2 ∧ x = .int .i64 i ∧ Own8 w0 wi (.slice a8 T.length c8) (turned T i)) (fun x _ => T.length / 2 - (intOf x).toNat)
          case atStart => exact ⟨0, Nat.zero_le _, rfl, by rw [turned_zero]; exact hO3⟩
          case round =>
            rename World => wi
            obtain ⟨i, hi, rfl, hOi⟩ := hrel
            have hlen := turned_len T i
            by_cases hlt : i < T.length / 2
            · have hltz : (i : Int) < (T.length : Int) / 2 := by omega
              have hltz2 : (i : Int) < (T.length : Int).tdiv 2 := by rw [Int.tdiv_eq_ediv_of_nonneg (by omega)]; exact hltz
              have hOi' := hOi
              rw [← hlen] at hOi'
              rcases hOi'.ex with ⟨h0, hT⟩ | ⟨g, cap, hv, hg, hcap⟩
              · exfalso; rw [hT] at hlen; simp at hlen; omega
              cases hv
              obtain ⟨j, hj⟩ : ∃ j, j = T.length - 1 - i := ⟨_, rfl⟩
              have q0 := hOi'.cell i (by omega)
              have q1 := hOi'.cell j (by omega)
              have qf := hOi'.frozen i
              have qg := hOi'.frozen j
              have HS := Lib.hid (turned_step hlt)
              rw [← hj] at HS
              have hO4 := hOi'.set i ((turned T i).getD j 0) hg
              have hO5 := (show Own8 w0 _ (.slice (some ⟨g, 0, none⟩) ((turned T i).set i ((turned T i).getD j 0)).length c8) _ by rw [List.length_set]; exact hO4).set j ((turned T i).getD i 0) hg
              rw [HS.out, List.length_set, hlen] at hO5
              have HO5 := Lib.hid hO5
              have g1 : (T.length : Int) - 1 - (i : Int) = (j : Int) := by omega
              have g2 : IntKind.i64.wrap ((T.length : Int) - 1) = (T.length : Int) - 1 := by rw [IntKind.wrap_i64]; omega
              have g3 : IntKind.i64.wrap ((T.length : Int) - 1 - (i : Int)) = (j : Int) := by rw [IntKind.wrap_i64]; omega
              have hji : i ≠ j := by omega
              have hij : j ≠ i := by omega
              have hiT : (i : Int) < (T.length : Int) := by omega
              have hjT : (j : Int) < (T.length : Int) := by omega
              clear hO4 hO5 hOi hOi' hlen hj
              generalize (turned T i).getD j 0 = bj at *
              generalize (turned T i).getD i 0 = bi at *
              go_wp2
              go_region
              all_goals
                go_wp2
                refine ⟨⟨i + 1, by omega, by go_num, ?_⟩, by simp [intOf] <;> omega⟩
                exact ⟨HO5.out.1, HO5.out.2.drew⟩
            · have HO := Lib.hid (show Own8 w0 wi (.slice a8 T.length c8) T.reverse by rw [← turned_end T (i := i) (Nat.le_of_not_lt hlt)]; exact hOi)
              have hcv := (show Own8 w0 wi (.slice a8 T.reverse.length c8) T.reverse by rw [List.length_reverse]; exact HO.out).str
              rw [List.length_reverse, ← HE.out] at hcv
              have hB9 := bthen hB HO.out.2
              have hltz : ¬ (i : Int) < (T.length : Int) / 2 := by omega
              have hltz2 : ¬ (i : Int) < (T.length : Int).tdiv 2 := by rw [Int.tdiv_eq_ediv_of_nonneg (by omega)]; exact hltz
              clear hOi hlen
              go_wp2
              go_ret
              exact ⟨rfl, hB9⟩
end Go.Proofs.YthaohpfbengabaaGreatDoor

/- A row of int64s, an int64, an int that came in, with their bulk. -/
namespace Go.Proofs.YthaohpfbengabaaGreatDoor
open Go.ChangeShapes Go.WideShapes Go.ChangeAt Go.RowKit Go.Joins Go.Deep
set_option linter.unusedVariables false
set_option linter.unusedSimpArgs false
section
variable {H : Type} {enc : TypeId × Value → H} {W : World} {b0 : Nat} {r : Reach} {v : Value} {d : DataW H} {p : List MemPlace}
set_option maxRecDepth 100000 in
theorem open_grid5 (hv : Value.okWide Tryz.prog W r b0 23 v) (h : DataW.Trod enc Tryz.prog W 0 (fun _ => true) true 23 v d p) :
    ∃ g, GridI W v g ∧ sumG g + g.length ≤ Rows.uptoBulk d := by
  obtain ⟨a, n, cap, rfl⟩ := okWide_slice Tryz.underlying23 hv
  obtain ⟨fuel, hf⟩ := h
  rcases open_int_rows Tryz.underlying23 Tryz.underlying70 Tryz.underlying2 (by kernel_rfl) (by kernel_rfl) hf with ⟨hcs, hx⟩ | ⟨x, len, c, A, L, C, Z, hcs, _, hl, hm, hx, hr⟩
  · simp [Value.cells] at hcs
    obtain ⟨rfl, rfl, rfl⟩ := hcs
    exact ⟨[], ⟨_, _, rfl, fun k hk => absurd hk (by simp)⟩, by simp [sumG]⟩
  · simp [Value.cells] at hcs
    obtain ⟨rfl, rfl, rfl⟩ := hcs
    simp only [Prod.mk.injEq] at hx
    have hlen : ∀ r, r < n → ((Z r).take (L r)).length = L r := fun r hr' => by
      obtain ⟨_, h1, _, h2, _⟩ := hr r (by omega)
      rw [List.length_take]; omega
    refine ⟨(List.range n).map fun r => (Z r).take (L r), ⟨_, _, by rw [List.length_map, List.length_range], fun k hk => ?_⟩, ?_⟩
    · rw [List.length_map, List.length_range] at hk
      obtain ⟨h1, h2, h3, h4, h5, h6, h7⟩ := hr k (by omega)
      obtain ⟨b, o, rfl⟩ := plain_at (hr 0 (by omega)).1
      rw [add_plain] at h1
      refine ⟨b, o, _, rfl, h1, ?_⟩
      have e : ((List.range n).map fun r => (Z r).take (L r)).getD k [] = (Z k).take (L k) := by simp [hk]
      rw [e]
      refine ⟨A k, C k, by rw [hlen k hk], fun j hj => ?_⟩
      rw [hlen k hk] at hj
      cases hA : A k with
      | none => have := h6 hA; omega
      | some a' =>
        obtain ⟨_, h8⟩ := h7 a' hA
        have h9 := h8 j (by omega)
        obtain ⟨b', o', rfl⟩ := plain_at (h8 0 (by omega))
        rw [add_plain] at h9
        have e2 : ((Z k).take (L k)).getD j 0 = (Z k).getD j 0 := by
          rw [List.getD_eq_getElem?_getD, List.getD_eq_getElem?_getD, List.getElem?_take_of_lt hj]
        rw [e2]
        refine ⟨b', o', rfl, h9, ?_⟩
        refine i64_of (h5 _ ?_)
        rw [List.getD_eq_getElem?_getD, List.getElem?_eq_getElem (by omega)]
        exact List.getElem_mem _
    · rw [hx.1]
      have h0 : ∀ r ∈ List.range n, L r + 1 ≤ Rows.uptoBulk (intRow (H := H) .i64 (A r) (L r) (Z r)) := fun r hr' => by
        have hr2 : r < n := by simpa using hr'
        obtain ⟨h1, h2, h3, h4, h5, h6, h7⟩ := hr r (by omega)
        cases hA : A r with
        | none => have := h6 hA; simp [intRow, Rows.uptoBulk]; omega
        | some a' =>
          have := bulks.length_le (H := H) (lits .i64 ((Z r).take (L r)))
          simp only [lits, List.length_map, List.length_take] at this
          simp only [intRow, Rows.uptoBulk, lits]
          omega
      have h1 := bulks.sum_le (fun r => intRow (H := H) .i64 (A r) (L r) (Z r)) L (List.range n) h0
      have h2 : sumG ((List.range n).map fun r => (Z r).take (L r)) = ((List.range n).map L).sum := by
        unfold sumG
        rw [List.map_map]
        congr 1
        apply List.map_congr_left
        intro r hr'
        exact hlen r (by simpa using hr')
      simp only [Rows.uptoBulk]
      rw [h2, List.length_map, List.length_range]
      rw [List.length_range] at h1
      omega
set_option maxRecDepth 100000 in
theorem open_i64row (hv : Value.okWide Tryz.prog W r b0 70 v) (h : DataW.Trod enc Tryz.prog W 0 (fun _ => true) true 70 v d p) :
    ∃ l, RowI W v l ∧ l.length ≤ Rows.uptoBulk d := by
  obtain ⟨a, n, cap, rfl⟩ := okWide_slice Tryz.underlying70 hv
  obtain ⟨fuel, hf⟩ := h
  rcases open_ints Tryz.underlying70 Tryz.underlying2 (by kernel_rfl) hf with ⟨hcs, hx⟩ | ⟨a', len, c, zs, hcs, _, hl, hm, hz, hx, hc, hwf⟩
  · simp [Value.cells] at hcs
    obtain ⟨rfl, rfl, rfl⟩ := hcs
    exact ⟨[], ⟨_, _, rfl, fun k hk => absurd hk (by simp)⟩, by simp⟩
  · simp [Value.cells] at hcs
    obtain ⟨rfl, rfl, rfl⟩ := hcs
    simp only [if_true] at hz
    simp only [Prod.mk.injEq] at hx
    have hlen : (zs.take n).length = n := by rw [List.length_take]; omega
    refine ⟨zs.take n, ⟨_, _, by rw [hlen], fun k hk => ?_⟩, ?_⟩
    · rw [hlen] at hk
      obtain ⟨b, o, rfl⟩ := plain_at (hc 0 (by omega))
      have h9 := hc k (by omega)
      rw [add_plain] at h9
      have e2 : (zs.take n).getD k 0 = zs.getD k 0 := by rw [List.getD_eq_getElem?_getD, List.getD_eq_getElem?_getD, List.getElem?_take_of_lt hk]
      rw [e2]
      refine ⟨b, o, rfl, h9, i64_of (hwf _ ?_)⟩
      rw [List.getD_eq_getElem?_getD, List.getElem?_eq_getElem (by omega)]
      exact List.getElem_mem _
    · have h1 := bulks.length_le (H := H) (lits .i64 (zs.take n))
      simp only [lits, List.length_map] at h1
      rw [hx.1]
      simp only [Rows.uptoBulk, lits]
      omega
end
set_option maxRecDepth 100000 in
theorem open_i64k {H : Type} {enc : TypeId × Value → H} {W : World} {base b0 : Nat} {r : Reach} {spare : Nat → Bool} {held : Bool} {v : Value} {d : DataW H} {p : List MemPlace}
    (hv : Value.okWide Tryz.prog W r b0 2 v) (h : DataW.Trod enc Tryz.prog W base spare held 2 v d p) :
    ∃ a : Int, v = .int .i64 a ∧ (Lit.int .i64 a).wf = true := by
  obtain ⟨x, rfl, rfl, rfl, wx⟩ := open_int Tryz.underlying2 hv h
  exact ⟨x, rfl, wx⟩
end Go.Proofs.YthaohpfbengabaaGreatDoor

