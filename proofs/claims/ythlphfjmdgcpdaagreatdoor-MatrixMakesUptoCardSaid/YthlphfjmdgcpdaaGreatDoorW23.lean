/- Texts of this seat, laid together: MxL, MxM. Each opens with its own remark, which says what it proves, and under which conditions. -/
import Derived.Test.YthlphfjmdgcpdaaGreatDoorW22
import Derived.Test.YthlphfjmdgcpdaaGreatDoorW20
import Derived.Test.YthlphfjmdgcpdaaGreatDoorW02
set_option linter.unusedVariables false
set_option linter.unusedSimpArgs false
/- matrix: Adjugate's function value. -/
namespace Go.Proofs.YthlphfjmdgcpdaaGreatDoor
open Num
open Go.ChangeShapes Go.WideShapes Go.ChangeAt Go.RowKit
set_option linter.unusedVariables false
set_option linter.unusedSimpArgs false
attribute [local go_sem ↓] Go.wp_at_zero Go.wp_at_succ
/-- what is left of the first rows, without a row and a column -/
def leftG (g : Grid) (j i k : Nat) : Grid := ((g.take k).eraseIdx j).map (·.eraseIdx i)
theorem left_skip {g : Grid} {j i k : Nat} (hk : k < g.length) (h : k = j) : leftG g j i (k + 1) = leftG g j i k := by
  subst h
  unfold leftG
  rw [take_getD [] hk, List.eraseIdx_append_of_length_le (by simp; omega), List.eraseIdx_of_length_le (l := g.take k) (by simp; omega)]
  simp [Nat.min_eq_left (Nat.le_of_lt hk)]
theorem left_next {g : Grid} {j i k : Nat} (hk : k < g.length) (h : k ≠ j) : leftG g j i (k + 1) = leftG g j i k ++ [(g.getD k []).eraseIdx i] := by
  unfold leftG
  rw [take_getD [] hk]
  by_cases e : j < k
  · rw [List.eraseIdx_append_of_lt_length (by simp; omega)]; simp
  · rw [List.eraseIdx_of_length_le (l := g.take k) (by simp; omega), List.eraseIdx_of_length_le (by simp; omega)]; simp
theorem erase_getD {l : List Int} {i k : Nat} : (l.eraseIdx i).getD k 0 = l.getD (Det.skip i k) 0 := by
  unfold Det.skip
  simp only [List.getD_eq_getElem?_getD, List.getElem?_eraseIdx]
  split <;> rfl
theorem left_len (g : Grid) (j i k : Nat) : (leftG g j i k).length ≤ k := by
  unfold leftG
  rw [List.length_map]
  exact Nat.le_trans (List.length_eraseIdx_le _ _) (by rw [List.length_take]; omega)
theorem left_all {g : Grid} {j i : Nat} (hj : j < g.length) : (leftG g j i g.length).length = g.length - 1 := by
  unfold leftG; rw [List.take_length, List.length_map, List.length_eraseIdx_of_lt hj]
theorem left_row {g : Grid} {j i r : Nat} (hj : j < g.length) (hr : r < g.length - 1) : (leftG g j i g.length).getD r [] = (g.getD (Det.skip j r) []).eraseIdx i := by
  unfold leftG Det.skip
  rw [List.take_length, List.getD_eq_getElem?_getD, List.getElem?_map, List.getElem?_eraseIdx, List.getD_eq_getElem?_getD]
  split
  · rw [List.getElem?_eq_getElem (by omega)]; rfl
  · rw [List.getElem?_eq_getElem (by omega)]; rfl
theorem left_gat {g : Grid} {j i r c : Nat} (hj : j < g.length) (hr : r < g.length - 1) : gat (leftG g j i g.length) r c = gat g (Det.skip j r) (Det.skip i c) := by
  unfold gat; rw [left_row hj hr, erase_getD]
theorem left_rct {g : Grid} {j i : Nat} (hj : j < g.length) (hi : i < g.length) (h : Rct g g.length) : Rct (leftG g j i g.length) (leftG g j i g.length).length := by
  intro r hr
  rw [left_all hj] at hr ⊢
  rw [left_row hj hr, List.length_eraseIdx_of_lt]
  · rw [h _ (by unfold Det.skip; split <;> omega)]
  · rw [h _ (by unfold Det.skip; split <;> omega)]; exact hi
theorem left_bd {g : Grid} {j i K : Nat} (hj : j < g.length) (h : BdM K g) : BdM K (leftG g j i g.length) := by
  intro r c
  by_cases e : r < g.length - 1
  · rw [left_gat hj e]; exact h _ _
  · unfold gat
    have h0 : (leftG g j i g.length).getD r [] = [] := by rw [List.getD_eq_getElem?_getD, List.getElem?_eq_none (by rw [left_all hj]; omega)]; rfl
    rw [h0]
    exact bd_zero
theorem left_det {g : Grid} {j i : Nat} (hj : j < g.length) : Det.detE (leftG g j i g.length).length (gat (leftG g j i g.length)) = Det.detE (g.length - 1) (fun r c => gat g (Det.skip j r) (Det.skip i c)) := by
  rw [left_all hj]
  exact Det.detE_congr fun r c hr _ => left_gat hj hr
/-- two rows in a new block -/
theorem isL_two {w : World} {b : Nat} {u1 u2 : Value} {l1 l2 : List Int} {c : Nat} (h1 : w.cell? ⟨b, 0, none⟩ = some u1) (h2 : w.cell? ⟨b, 1, none⟩ = some u2) (hc : 2 ≤ c) (hc2 : c ≤ maxLen) (ht : typOf w b = some 59) (p1 : PSl w u1 l1) (p2 : PSl w u2 l2) :
    IsL 59 PSl 0 w (.slice (some ⟨b, 0, none⟩) 2 c) [l1, l2] := by
  refine ⟨_, c, rfl, hc, hc2, .inr ⟨b, 0, rfl, Nat.zero_le _, ht, fun k hk => ?_⟩⟩
  match k, hk with
  | 0, _ => exact ⟨u1, by simpa using h1, p1⟩
  | 1, _ => exact ⟨u2, by simpa using h2, p2⟩
theorem IntsF.shift {w : World} {b off n d : Nat} {l : List Int} (h : IntsF IsInt w b off n (fun k => l.getD k 0)) {m : Nat} (hm : d + m ≤ n) : IntsF IsInt w b (off + d * 2) m (fun k => (l.drop d).getD k 0) := fun k hk => by
  obtain ⟨nb, a, len, c, k1, k2, k3⟩ := h (d + k) (by omega)
  refine ⟨nb, a, len, c, by rw [show off + d * 2 + k * 2 = off + (d + k) * 2 by omega]; exact k1, by rw [show off + d * 2 + k * 2 + 1 = off + (d + k) * 2 + 1 by omega]; exact k2, ?_⟩
  show IsInt _ _ ((l.drop d).getD k 0)
  rw [List.getD_eq_getElem?_getD, List.getElem?_drop, ← List.getD_eq_getElem?_getD]; exact k3
theorem IntsF.head {w : World} {b off n m : Nat} {l : List Int} (h : IntsF IsInt w b off n (fun k => l.getD k 0)) (hm : m ≤ n) : IntsF IsInt w b off m (fun k => (l.take m).getD k 0) := fun k hk => by
  obtain ⟨nb, a, len, c, k1, k2, k3⟩ := h k (by omega)
  refine ⟨nb, a, len, c, k1, k2, ?_⟩
  show IsInt _ _ ((l.take m).getD k 0)
  rw [List.getD_eq_getElem?_getD, List.getElem?_take_of_lt hk, ← List.getD_eq_getElem?_getD]; exact k3
theorem prow_block {base : Nat} {w : World} {v : Value} {l : List Int} (h : PRow base w v l) (hl : 0 < l.length) : ∃ b off c, v = .slice (some ⟨b, off, none⟩) l.length c ∧ l.length ≤ c ∧ c ≤ maxLen ∧ typOf w b = some 36 ∧ IntsF IsInt w b off l.length (fun k => l.getD k 0) := by
  obtain ⟨a, c, e, hlc, hcm, h⟩ := h
  rcases h with rfl | ⟨b, off, rfl, _, ht, hi⟩
  · simp at hl
  · exact ⟨b, off, c, e, hlc, hcm, ht, hi⟩
theorem detE_bd {g : Grid} {K : Nat} (h1 : 1 ≤ K) (hb : BdM K g) {n : Nat} (hn : g.length = n) : Bd (kb K n) (Det.detE g.length (gat g)) := by
  subst hn
  unfold Det.detE
  split
  · exact bd_zero
  · have h2 := (elR_bd (n := g.length) (m := g.length) (K := K) h1 (fun r c _ _ => hb r c) g.length (Nat.le_refl _)).2
    rcases elR_sgn g.length (gat g) g.length with e | e <;> rw [e]
    · rw [Int.mul_one]; exact h2
    · unfold Bd; rw [Int.mul_neg, Int.mul_one, Int.natAbs_neg]; exact h2
theorem psl_head {W : World} {rb ro n rc i : Nat} {row : List Int} (ht : typOf W rb = some 36) (h : IntsF IsInt W rb ro n (fun k => row.getD k 0)) (hl : row.length = n) (hi : i ≤ n) : PSl W (.slice (some ⟨rb, ro, none⟩) i rc) (row.take i) := by
  have e : (row.take i).length = i := by rw [List.length_take]; omega
  exact ⟨rb, ro, rc, by rw [e], ht, by rw [e]; exact h.head hi⟩
theorem psl_tail {W : World} {rb ro n rc i : Nat} {row : List Int} (ht : typOf W rb = some 36) (h : IntsF IsInt W rb ro n (fun k => row.getD k 0)) (hl : row.length = n) (hi : i < n) : PSl W (.slice (some ⟨rb, ro + (i + 1) * 2, none⟩) (n - (i + 1)) rc) (row.drop (i + 1)) := by
  have e : (row.drop (i + 1)).length = n - (i + 1) := by rw [List.length_drop, hl]
  exact ⟨rb, ro + (i + 1) * 2, rc, by rw [e], ht, by rw [e]; exact h.shift (by omega)⟩
theorem psl_none {W : World} {rb ro n rc i : Nat} {row : List Int} (ht : typOf W rb = some 36) (hl : row.length = n) (hi : n ≤ i + 1) : PSl W (.slice (some ⟨rb, ro, none⟩) (n - (i + 1)) rc) (row.drop (i + 1)) := by
  have e : (row.drop (i + 1)).length = n - (i + 1) := by rw [List.length_drop, hl]
  exact ⟨rb, ro, rc, by rw [e], ht, fun k hk => by rw [e] at hk; omega⟩
theorem erase_flat {n i : Nat} {row : List Int} (hl : row.length = n) (hi : i < n) : [row.take i, row.drop (i + 1)].flatten = row.eraseIdx i ∧ [row.take i, row.drop (i + 1)].flatten.length = n - 1 := by
  have e : [row.take i, row.drop (i + 1)].flatten = row.eraseIdx i := by rw [List.eraseIdx_eq_take_drop_succ]; simp
  exact ⟨e, by rw [e, List.length_eraseIdx_of_lt (by omega), hl]⟩
theorem two_le {k j n : Nat} (hk : k < n) (hj : j < n) (e : k ≠ j) : 2 ≤ n := by omega
theorem len_bd {L k n : Nat} (h : L ≤ k) (h2 : k ≤ n) (h3 : n ≤ 65536) : (L + 1) * 24 ≤ 140737488355328 := by omega
theorem len_bd2 {L k n : Nat} (h : L ≤ k) (h2 : k ≤ n) (h3 : n ≤ 65536) : L + 1 ≤ maxLen := by unfold maxLen; omega
theorem wr_succ {i n : Nat} (h : i < n) (hn : n ≤ 65536) : wrap64 ((i : Int) + 1) = (i : Int) + 1 ∧ IntKind.i64.wrap ((i : Int) + 1) = (i : Int) + 1 ∧ ((i : Int) + 1).toNat = i + 1 ∧ 0 ≤ (i : Int) + 1 ∧ (i : Int) + 1 ≤ (n : Int) := by
  have h1 : wrap64 ((i : Int) + 1) = (i : Int) + 1 := by unfold wrap64; omega
  exact ⟨h1, by rw [IntKind.wrap_i64]; omega, by omega, by omega, by omega⟩
theorem wr_add {i j n : Nat} (h : i < n) (h2 : j < n) (hn : n ≤ 65536) : wrap64 ((i : Int) + j) = (i : Int) + j ∧ IntKind.i64.wrap ((i : Int) + j) = (i : Int) + j := by
  have h1 : wrap64 ((i : Int) + j) = (i : Int) + j := by unfold wrap64; omega
  exact ⟨h1, by rw [IntKind.wrap_i64]; omega⟩
theorem tmod_two (i j : Nat) : ((i : Int) + (j : Int)).tmod 2 = (((i + j) % 2 : Nat) : Int) := by
  rw [Int.tmod_eq_emod_of_nonneg (by omega)]; omega
set_option maxRecDepth 100000 in
set_option maxHeartbeats 8000000 in
theorem adj1_c (mb : Nat) (g : Grid) (K : Nat) (w : World) (hm : BoxM mb w g) (hr : Rct g g.length) (hn : g.length ≤ 65536) (hK1 : 1 ≤ K) (hbd : BdM K g) (hK : kb K (g.length - 1) ≤ 4294967296) :
    FnF (Det.iadj g.length (gat g)) g.length g.length 77 #[.pointer (some ⟨mb, 0, none⟩)] w := by
  intro W i j hi hj hW
  show Calls Tryz.prog 77 #[.int .i64 (i : Nat), .int .i64 (j : Nat), .pointer (some ⟨mb, 0, none⟩)] W _
  have hM := hm.keep hW
  have HM := Lib.hid hM
  have HR := Lib.hid hr
  have HBD := Lib.hid hbd
  obtain ⟨gc, gb, go, -, -, m0, -, -⟩ := hM.row (show 0 < g.length by omega)
  have zm := cell_lt m0
  have hB := Below.refl W.heap.size W
  clear hm hr hbd hW
  obtain ⟨n, hnn⟩ : ∃ n, g.length = n := ⟨_, rfl⟩
  have HN := Lib.hid hnn
  have HDT := Lib.hid (left_det (i := i) hj)
  have HLR := Lib.hid (left_rct hj hi HR.out)
  have HLB := Lib.hid (left_bd (i := i) hj HBD.out)
  have HLA := Lib.hid (left_all (i := i) hj)
  rw [hnn] at m0 hi hj hn hK HDT HLR HLB HLA ⊢
  clear hnn
  go_enter Tryz.func77, Tryz.ntmps77
  go_wp2
  refine wp_name fun w1 hW1 => ?_
  have hB1 : Below W.heap.size W w1 := by rw [hW1]; repeat (first | exact Below.refl _ _ | exact hB | refine Below.drew ?_ | refine below_drewN ?_ _ | refine bset ?_ (by simp <;> omega) _ | refine bal ?_ _)
  have HR1 := Lib.hid (show w1.cell? ⟨W.heap.size, 0, none⟩ = some (.bool false) ∧ w1.cell? ⟨W.heap.size, 1, none⟩ = some (.slice none 0 0) ∧ w1.frozen? ⟨W.heap.size, 0, none⟩ = false ∧ w1.frozen? ⟨W.heap.size, 1, none⟩ = false from by rw [hW1]; simp [go_sem])
  have HM1 := Lib.hid (HM.out.keep hB1)
  have HM0 := Lib.hid (bkeep hB1 m0)
  clear hW1
  have m0 := HM0.out
  have zm := cell_lt m0
  go_wp2
  have hb11 := Below.refl w1.heap.size w1
  go_loopw [6, 13] (fun v x wr => ∃ k : Nat, k ≤ n ∧ x = .int .i64 k ∧ Hid (OwnL 59 (PRow w1.heap.size) w1 wr v (leftG g j i k))) (fun _ x _ => n - (intOf x).toNat)
  case atStart => exact ⟨0, Nat.zero_le _, rfl, Lib.hid (OwnL.nil _ _ hb11)⟩
  case round =>
    obtain ⟨k, hk, rfl, hO⟩ := hrel
    have hBr := hO.out.bel
    by_cases hlt : k < n
    · have hltI : (k : Int) < (n : Int) := by omega
      have hkg : k < g.length := by rw [HN.out]; exact hlt
      obtain ⟨c2, gb2, go2, ra, rc, m2, hu, hp⟩ := (HM1.out.keep hBr).row hkg
      rw [HN.out] at m2
      obtain ⟨rfl, rfl, rfl⟩ : gb = gb2 ∧ go = go2 ∧ gc = c2 := by
        have h1 := Option.some.inj ((bkeep hBr HM0.out).symm.trans m2)
        have h2 := Value.slice.inj h1
        simp at h2
        exact ⟨h2.1.1, h2.1.2, h2.2⟩
      have m0 := bkeep hBr HM0.out
      clear m2
      have hrl := HR.out k hkg
      rw [HN.out] at hrl
      by_cases e : k = j
      · have eI : ((k : Int) != (j : Int)) = false := by simp [e]
        have HS := Lib.hid (left_skip (i := i) hkg e)
        have zm := cell_lt m0
        have zu := cell_lt hu
        clear hp hrl e
        go_wp2
        exact ⟨⟨k + 1, by omega, by go_num, Lib.hid (by rw [HS.out]; exact hO.out)⟩, by simp [intOf]; omega⟩
      · have eI : ((k : Int) != (j : Int)) = true := by simp; omega
        have HS := Lib.hid (left_next (i := i) hkg e)
        have eN := e
        obtain ⟨rb, ro, rc', he, hlc, hcm, ht, hI⟩ := prow_block hp (by rw [hrl]; omega)
        obtain ⟨rfl, -, rfl⟩ := Value.slice.inj he
        rw [hrl] at hu hI hlc
        obtain ⟨row, hrow⟩ : ∃ row, g.getD k [] = row := ⟨_, rfl⟩
        rw [hrow] at HS hI hrl
        have HI := Lib.hid (And.intro ht hI)
        have HRL := Lib.hid hrl
        have zm := cell_lt m0
        have zu := cell_lt hu
        have hiI : (i : Int) ≤ (rc : Int) := by omega
        obtain ⟨hw0, hw1, hw2, hw3, hw4⟩ := wr_succ hi hn
        obtain ⟨hv0, hv1, -, -, -⟩ := wr_succ hlt hn
        have hn2 : 2 ≤ n := two_le hlt hj eN
        have hN1 : 0 < n - 1 := Nat.sub_pos_of_lt hn2
        have hN2 : n - 1 ≤ 1099511627776 := Nat.le_trans (Nat.sub_le _ _) (Nat.le_trans hn (by decide))
        have HP1 := Lib.hid (fun W (q : Below wr.heap.size wr W) (c : Nat) => psl_head (rc := c) (typ_keep HI.out.1 q) (HI.out.2.keep lims_int q) HRL.out (Nat.le_of_lt hi))
        have HP2 := Lib.hid (fun W (q : Below wr.heap.size wr W) (_ : rc ≠ i + 1) => psl_tail (rc := rc - (i + 1)) (typ_keep HI.out.1 q) (HI.out.2.keep lims_int q) HRL.out hi)
        have HP3 := Lib.hid (fun W (q : Below wr.heap.size wr W) (e : rc = i + 1) (c : Nat) => psl_none (ro := ro) (rc := c) (typ_keep HI.out.1 q) HRL.out (show n ≤ i + 1 from e ▸ hlc))
        have HFL := Lib.hid (erase_flat HRL.out hi)
        clear he hp hI ht hrow hrl e
        obtain ⟨la, lc, hlv⟩ := hO.out.ex
        obtain ⟨LL, hLL⟩ : ∃ l, (leftG g j i k).length = l := ⟨_, rfl⟩
        rw [hLL] at hlv
        subst hlv
        have HLL := Lib.hid hLL
        clear hLL
        have hBw := Below.refl wr.heap.size wr
        have hLLk := left_len g j i k
        rw [HLL.out] at hLLk
        have hA1 : (LL + 1) * 24 ≤ 140737488355328 := len_bd hLLk hk hn
        have hA2 : LL + 1 ≤ maxLen := len_bd2 hLLk hk hn
        clear eN
        have cc := fun W u (h : IsL 59 PSl 0 W u [row.take i, row.drop (i + 1)]) => concat_c u [row.take i, row.drop (i + 1)] W h (by rw [HFL.out.2]; exact hN1) (by rw [HFL.out.2]; exact hN2) (by simp)
        rw [HFL.out.1] at cc
        have HO0 := Lib.hid hO.out
        clear hO
        by_cases hrc : rc = i + 1
        · have hiJ : (i : Int) ≤ ((i + 1 : Nat) : Int) := Int.ofNat_le.2 (Nat.le_succ i)
          have hiK : (i : Int) ≤ (i : Int) + 1 := Int.le_add_one (Int.le_refl _)
          go_wp2
          go_region_held3 (fun W => True)
            (first | trivial | fail)
            (first
            | (refine stepL elRow (prs_prow _) (by decide) (by rfl) (by rfl) (HO5.out.below (prs_prow _) (bal (Below.refl _ _) _)) ((prs_prow _).kp HR5.out (Kp.of_below _ (bal (Below.refl _ _) _))) (by rfl) (by rfl) (cell_new rfl rfl) (by rw [HLL.out]; exact hA1) (by rw [HLL.out]; exact hA2) ?_; intro v' w8 hO8 hk8; have HO8 := Lib.hid hO8; clear hO8 hk8)
            | (go_at_call 78; refine (cc _ _ (isL_two ?_ ?_ (by decide) (by unfold maxLen; decide) ?_ (HP1.out _ ?_ (i + 1)) (HP3.out _ ?_ hrc 0))).mono ?_; (first | exact cell_drew (cell_new rfl rfl) | exact cell_new rfl rfl); (first | exact cell_drew (cell_new rfl rfl) | exact cell_new rfl rfl); (exact typ_fresh rfl); (repeat (first | exact Below.refl _ _ | exact hBw | refine Below.drew ?_ | refine below_drewN ?_ _ | refine bset ?_ (by simp <;> omega) _ | refine bal ?_ _)); (repeat (first | exact Below.refl _ _ | exact hBw | refine Below.drew ?_ | refine below_drewN ?_ _ | refine bset ?_ (by simp <;> omega) _ | refine bal ?_ _)); rintro e w5 ⟨⟨v5, rfl, hr5⟩, hb5⟩; have hB5 : Below wr.heap.size wr w5 := bthen (by repeat (first | exact Below.refl _ _ | exact hBw | refine Below.drew ?_ | refine below_drewN ?_ _ | refine bset ?_ (by simp <;> omega) _ | refine bal ?_ _)) hb5; have HR5 := Lib.hid (show PRow w1.heap.size w5 v5 (row.eraseIdx i) from hr5.row.rebase (show w1.heap.size ≤ _ from Nat.le_trans hBr.size (bal (Below.refl wr.heap.size wr) _).size)); have HO5 := Lib.hid (HO0.out.below (prs_prow _) hB5); obtain ⟨a5, c5, rfl⟩ := hr5.ex; clear hr5 hb5)
            | fail)
          all_goals
            rw [← HS.out] at HO8
            go_wp2
            exact ⟨⟨k + 1, hlt, by go_num, HO8⟩, meas hlt (by go_num) rfl⟩
        ·
          go_wp2
          go_region_held3 (fun W => True)
            (first | trivial | fail)
            (first
            | (refine stepL elRow (prs_prow _) (by decide) (by rfl) (by rfl) (HO5.out.below (prs_prow _) (bal (Below.refl _ _) _)) ((prs_prow _).kp HR5.out (Kp.of_below _ (bal (Below.refl _ _) _))) (by rfl) (by rfl) (cell_new rfl rfl) (by rw [HLL.out]; exact hA1) (by rw [HLL.out]; exact hA2) ?_; intro v' w8 hO8 hk8; have HO8 := Lib.hid hO8; clear hO8 hk8)
            | (go_at_call 78; refine (cc _ _ (isL_two ?_ ?_ (by decide) (by unfold maxLen; decide) ?_ (HP1.out _ ?_ rc) (HP2.out _ ?_ hrc))).mono ?_; (first | exact cell_drew (cell_new rfl rfl) | exact cell_new rfl rfl); (first | exact cell_drew (cell_new rfl rfl) | exact cell_new rfl rfl); (exact typ_fresh rfl); (repeat (first | exact Below.refl _ _ | exact hBw | refine Below.drew ?_ | refine below_drewN ?_ _ | refine bset ?_ (by simp <;> omega) _ | refine bal ?_ _)); (repeat (first | exact Below.refl _ _ | exact hBw | refine Below.drew ?_ | refine below_drewN ?_ _ | refine bset ?_ (by simp <;> omega) _ | refine bal ?_ _)); rintro e w5 ⟨⟨v5, rfl, hr5⟩, hb5⟩; have hB5 : Below wr.heap.size wr w5 := bthen (by repeat (first | exact Below.refl _ _ | exact hBw | refine Below.drew ?_ | refine below_drewN ?_ _ | refine bset ?_ (by simp <;> omega) _ | refine bal ?_ _)) hb5; have HR5 := Lib.hid (show PRow w1.heap.size w5 v5 (row.eraseIdx i) from hr5.row.rebase (show w1.heap.size ≤ _ from Nat.le_trans hBr.size (bal (Below.refl wr.heap.size wr) _).size)); have HO5 := Lib.hid (HO0.out.below (prs_prow _) hB5); obtain ⟨a5, c5, rfl⟩ := hr5.ex; clear hr5 hb5)
            | fail)
          all_goals
            rw [← HS.out] at HO8
            go_wp2
            exact ⟨⟨k + 1, hlt, by go_num, HO8⟩, meas hlt (by go_num) rfl⟩
    · obtain rfl : k = n := Nat.le_antisymm hk (Nat.le_of_not_lt hlt)
      have hltI : ¬ (k : Int) < (k : Int) := Int.lt_irrefl _
      obtain ⟨la, lc, hlv⟩ := hO.out.ex
      have HIL : Hid (IsL 59 (PRow 0) 0 wr _ (leftG g j i k)) := Lib.hid ((hO.out.isL.mono fun u x h => h.rebase (Nat.zero_le _)).rebase (Nat.zero_le _))
      subst hlv
      have dc := fun W (q : Below wr.heap.size wr W) => det_c _ (leftG g j i k) K W (HIL.out.keep (prs_prow 0) q) HLR.out (by rw [HLA.out]; exact Nat.le_trans (Nat.sub_le _ _) (Nat.le_trans hn (by decide))) hK1 HLB.out (by rw [HLA.out]; exact hK)
      rw [HDT.out] at dc
      obtain ⟨d, hd⟩ : ∃ d, Det.detE (k - 1) (fun r c => gat g (Det.skip j r) (Det.skip i c)) = d := ⟨_, rfl⟩
      have HDB : Hid (Bd (kb K (k - 1)) d) := Lib.hid (by
        rw [← hd, ← HDT.out]
        exact detE_bd hK1 HLB.out (by rw [HLA.out]))
      have HIA := Lib.hid (show Det.iadj k (gat g) i j = if (i + j) % 2 = 1 then -d else d from by unfold Det.iadj; rw [hd])
      rw [hd] at dc
      obtain ⟨LL, hLL⟩ : ∃ l, (leftG g j i k).length = l := ⟨_, rfl⟩
      rw [hLL] at dc ⊢
      have r0f := bkeepf hBr HR1.out.1 HR1.out.2.2.1
      have r1f := bkeepf hBr HR1.out.2.1 HR1.out.2.2.2
      have r0 := bkeep hBr HR1.out.1
      have r1 := bkeep hBr HR1.out.2.1
      have hBW := bthen hB1 hBr
      have hBw := Below.refl wr.heap.size wr
      have zr := cell_lt r0
      clear hO HIL hd hLL
      go_wp2_with fail
      refine (dc _ (by repeat (first | exact Below.refl _ _ | exact hBw | refine Below.drew ?_ | refine below_drewN ?_ _ | refine bset ?_ (by simp <;> omega) _ | refine bal ?_ _))).mono ?_
      rintro e w5 ⟨⟨v5, rfl, hv5⟩, hb5⟩
      have hb5' : Below wr.heap.size wr w5 := bthen (by repeat (first | exact Below.refl _ _ | exact hBw | refine Below.drew ?_ | refine below_drewN ?_ _ | refine bset ?_ (by simp <;> omega) _ | refine bal ?_ _)) hb5
      have HV5 := Lib.hid hv5
      obtain ⟨n5, a5, c5, l5, rfl, -⟩ := hv5
      unfold iv at *
      replace r0f := bkeepf hb5' r0 r0f
      replace r1f := bkeepf hb5' r1 r1f
      replace r0 := bkeep hb5' r0
      replace r1 := bkeep hb5' r1
      replace zr := cell_lt r0
      have hB5 := bthen hBW hb5'
      obtain ⟨hs1', hs1⟩ := wr_add hi hj hn
      have HTM := Lib.hid (tmod_two i j)
      clear dc hb5 hBw
      by_cases hp : (i + j) % 2 = 1
      · have hs2 : ((i : Int) + (j : Int)).tmod 2 = 1 := by rw [HTM.out, hp]; rfl
        have nc := fun W (q : Below w5.heap.size w5 W) => neg_c _ d W (HV5.out.keep q)
        have hBw5 := Below.refl w5.heap.size w5
        go_wp2_with fail
        refine (nc _ (by repeat (first | exact Below.refl _ _ | exact hBw5 | refine Below.drew ?_ | refine below_drewN ?_ _ | refine bset ?_ (by simp <;> omega) _ | refine bal ?_ _))).mono ?_
        rintro e w6 ⟨⟨v6, rfl, hv6⟩, hb6⟩
        have hb5a : Below w5.heap.size w5 (w5.alloc (.cells #[.bool n5, .slice a5 l5.length c5] 36)) := bal (Below.refl _ _) _
        have d0 := bkeep hb6 (show (w5.alloc (.cells #[.bool n5, .slice a5 l5.length c5] 36)).cell? ⟨w5.heap.size, 0, none⟩ = some (.bool n5) from cell_new rfl rfl)
        have d1 := bkeep hb6 (show (w5.alloc (.cells #[.bool n5, .slice a5 l5.length c5] 36)).cell? ⟨w5.heap.size, 1, none⟩ = some (.slice a5 l5.length c5) from cell_new rfl rfl)
        have d0f := bkeepf hb6 (v := .bool n5) (cell_new rfl rfl) (by simp [go_sem] : (w5.alloc (.cells #[.bool n5, .slice a5 l5.length c5] 36)).frozen? ⟨w5.heap.size, 0, none⟩ = false)
        have d1f := bkeepf hb6 (v := .slice a5 l5.length c5) (cell_new rfl rfl) (by simp [go_sem] : (w5.alloc (.cells #[.bool n5, .slice a5 l5.length c5] 36)).frozen? ⟨w5.heap.size, 1, none⟩ = false)
        have hb6' : Below w5.heap.size w5 w6 := bthen hb5a hb6
        replace r0f := bkeepf hb6' r0 r0f
        replace r1f := bkeepf hb6' r1 r1f
        replace r0 := bkeep hb6' r0
        replace r1 := bkeep hb6' r1
        have hB6 := bthen hB5 hb6'
        have zr6 := cell_lt r0
        have zd6 := cell_lt d0
        have hne6 : ¬ w5.heap.size = W.heap.size := Nat.ne_of_gt zr
        have HP6 := Lib.hid (hv6.put2 d0 d1)
        obtain ⟨n6, a6, c6, l6, rfl, -⟩ := hv6
        unfold iv at *
        have HP7 := Lib.hid ((HP6.out (.bool n6) (.slice a6 l6.length c6)).put2 (cell_far2 r0 hne6 n6 a6 l6.length c6) (cell_far2 r1 hne6 n6 a6 l6.length c6) (.bool n6) (.slice a6 l6.length c6))
        clear nc HV5 HP6 hb6 hb5a
        go_wp2
        refine bodyPost_ret (v := .agg #[.bool n6, .slice a6 l6.length c6]) (by simp [results, Tryz.results77, go_sem, *]) rfl ⟨⟨_, rfl, by rw [HIA.out, if_pos hp]; exact HP7.out⟩, ?_⟩
        repeat (first | exact Below.refl _ _ | exact hB6 | refine Below.drew ?_ | refine below_drewN ?_ _ | refine bset ?_ (by simp <;> omega) _ | refine bal ?_ _)
      · have hs2 : ((i : Int) + (j : Int)).tmod 2 = 0 := by rw [HTM.out, (Nat.mod_two_eq_zero_or_one _).resolve_right hp]; rfl
        have HP6 := Lib.hid ((HV5.out.put2 r0 r1 (.bool n5) (.slice a5 l5.length c5)).keep (bal (Below.refl _ _) (.cells #[.bool n5, .slice a5 l5.length c5] 36)))
        go_wp2
        refine bodyPost_ret (v := .agg #[.bool n5, .slice a5 l5.length c5]) (by simp [results, Tryz.results77, go_sem, *]) rfl ⟨⟨_, rfl, by rw [HIA.out, if_neg hp]; exact HP6.out⟩, ?_⟩
        repeat (first | exact Below.refl _ _ | exact hB5 | refine Below.drew ?_ | refine below_drewN ?_ _ | refine bset ?_ (by simp <;> omega) _ | refine bal ?_ _)
end Go.Proofs.YthlphfjmdgcpdaaGreatDoor

/- matrix: Det, Adjugate; row: Content. -/
namespace Go.Proofs.YthlphfjmdgcpdaaGreatDoor
open Num
open Go.ChangeShapes Go.WideShapes Go.ChangeAt Go.RowKit
set_option linter.unusedVariables false
set_option linter.unusedSimpArgs false
attribute [local go_sem ↓] Go.wp_at_zero Go.wp_at_succ
theorem sq_rct {g : Grid} (h : sqB g = true) (hr : Rct g (cols g)) : Rct g g.length := by
  unfold sqB at h
  simp at h
  rw [h.2]
  exact fun i hi => hr i (by omega)
theorem sq_pos {g : Grid} (h : sqB g = true) : 0 < g.length := by unfold sqB at h; simp at h; exact h.1
/-- what Det answers -/
def DetPost (g : Grid) (w : World) (e : Ending) (w' : World) : Prop :=
  ((sqB g = true ∧ ∃ u, e = .returned (.tuple #[u, .int .i64 0]) ∧ IsInt w' u (Det.detE g.length (gat g))) ∨ (sqB g = false ∧ e = .returned (.tuple #[.agg #[.bool false, .slice none 0 0], .int .i64 5]))) ∧ Below w.heap.size w w'
set_option maxRecDepth 100000 in
set_option maxHeartbeats 4000000 in
theorem detM_c (v : Value) (g : Grid) (K : Nat) (w : World) (hv : IsM 0 w v g) (hr : Rct g (cols g)) (hn : g.length ≤ 65536) (hK1 : 1 ≤ K) (hbd : BdM K g) (hK : kb K g.length ≤ 4294967296) :
    Calls Tryz.prog 9 #[v] w (DetPost g w) := by
  have sc := fun W (q : Below w.heap.size w W) => square_c v g W (hv.keep q)
  obtain ⟨ag, cg, rfl, lv⟩ := hv
  have dc := fun W (q : Below w.heap.size w W) (h : sqB g = true) => det_c (.slice ag g.length cg) g K W (lv.keep (prs_prow 0) q) (sq_rct h hr) (by omega) hK1 hbd hK
  have SC := Lib.hid sc
  have DC := Lib.hid dc
  clear sc dc lv hr hbd
  obtain ⟨N, hN⟩ : ∃ N, g.length = N := ⟨_, rfl⟩
  have HN := Lib.hid hN
  rw [hN] at SC DC hn hK ⊢
  clear hN
  have hB := Below.refl w.heap.size w
  obtain ⟨b, hb⟩ : ∃ b, sqB g = b := ⟨_, rfl⟩
  have HBQ := Lib.hid hb
  rw [hb] at SC
  clear hb
  cases b with
  | true =>
    go_enter Tryz.func9, Tryz.ntmps9
    go_wp2_with fail
    refine (SC.out _ (by repeat (first | exact Below.refl _ _ | exact hB | refine Below.drew ?_ | refine below_drewN ?_ _ | refine bset ?_ (by simp <;> omega) _ | refine bal ?_ _))).mono ?_
    rintro e w1 ⟨rfl, hb1⟩
    have m0 : w1.cell? ⟨w.heap.size, 0, none⟩ = some (.slice ag N cg) := bkc hb1
    have zm0 := cell_lt m0
    have r0 : w1.cell? ⟨w.heap.size + 1, 0, none⟩ = some (.bool false) := bkc hb1
    have zr0 := cell_lt r0
    have r0f : w1.frozen? ⟨w.heap.size + 1, 0, none⟩ = false := bkcf (v := .bool false) hb1
    have r1 : w1.cell? ⟨w.heap.size + 1, 1, none⟩ = some (.slice none 0 0) := bkc hb1
    have r1f : w1.frozen? ⟨w.heap.size + 1, 1, none⟩ = false := bkcf (v := .slice none 0 0) hb1
    have hB : Below w.heap.size w w1 := bthen (by repeat (first | exact Below.refl _ _ | exact hB | refine Below.drew ?_ | refine below_drewN ?_ _ | refine bset ?_ (by simp <;> omega) _ | refine bal ?_ _)) hb1
    have hz : w.heap.size ≤ w1.heap.size := hB.size
    go_wp2_with fail
    refine (DC.out _ (by repeat (first | exact Below.refl _ _ | exact hB | refine Below.drew ?_ | refine below_drewN ?_ _ | refine bset ?_ (by simp <;> omega) _ | refine bal ?_ _)) HBQ.out).mono ?_
    rintro e w2 ⟨⟨u, rfl, hu⟩, hb2⟩
    have m0 : w2.cell? ⟨w.heap.size, 0, none⟩ = some (.slice ag N cg) := bkc hb2
    have zm0 := cell_lt m0
    have r0 : w2.cell? ⟨w.heap.size + 1, 0, none⟩ = some (.bool false) := bkc hb2
    have zr0 := cell_lt r0
    have r0f : w2.frozen? ⟨w.heap.size + 1, 0, none⟩ = false := bkcf (v := .bool false) hb2
    have r1 : w2.cell? ⟨w.heap.size + 1, 1, none⟩ = some (.slice none 0 0) := bkc hb2
    have r1f : w2.frozen? ⟨w.heap.size + 1, 1, none⟩ = false := bkcf (v := .slice none 0 0) hb2
    have hB : Below w.heap.size w w2 := bthen (by repeat (first | exact Below.refl _ _ | exact hB | refine Below.drew ?_ | refine below_drewN ?_ _ | refine bset ?_ (by simp <;> omega) _ | refine bal ?_ _)) hb2
    have hz : w.heap.size ≤ w2.heap.size := hB.size
    have HP := Lib.hid (hu.put2 r0 r1)
    obtain ⟨nu, au, cu, lu, rfl, -⟩ := hu
    unfold iv at *
    clear SC DC
    go_wp2
    refine bodyPost_ret (v := .tuple #[.agg #[.bool nu, .slice au lu.length cu], .int .i64 0]) (by simp [results, Tryz.results9, go_sem, *]) rfl ⟨.inl ⟨HBQ.out, _, rfl, by rw [HN.out]; exact HP.out _ _⟩, ?_⟩
    repeat (first | exact Below.refl _ _ | exact hB | refine Below.drew ?_ | refine below_drewN ?_ _ | refine bset ?_ (by simp <;> omega) _ | refine bal ?_ _)
  | false =>
    go_enter Tryz.func9, Tryz.ntmps9
    go_wp2_with fail
    refine (SC.out _ (by repeat (first | exact Below.refl _ _ | exact hB | refine Below.drew ?_ | refine below_drewN ?_ _ | refine bset ?_ (by simp <;> omega) _ | refine bal ?_ _))).mono ?_
    rintro e w1 ⟨rfl, hb1⟩
    have m0 : w1.cell? ⟨w.heap.size, 0, none⟩ = some (.slice ag N cg) := bkc hb1
    have zm0 := cell_lt m0
    have r0 : w1.cell? ⟨w.heap.size + 1, 0, none⟩ = some (.bool false) := bkc hb1
    have zr0 := cell_lt r0
    have r0f : w1.frozen? ⟨w.heap.size + 1, 0, none⟩ = false := bkcf (v := .bool false) hb1
    have r1 : w1.cell? ⟨w.heap.size + 1, 1, none⟩ = some (.slice none 0 0) := bkc hb1
    have r1f : w1.frozen? ⟨w.heap.size + 1, 1, none⟩ = false := bkcf (v := .slice none 0 0) hb1
    have hB : Below w.heap.size w w1 := bthen (by repeat (first | exact Below.refl _ _ | exact hB | refine Below.drew ?_ | refine below_drewN ?_ _ | refine bset ?_ (by simp <;> omega) _ | refine bal ?_ _)) hb1
    have hz : w.heap.size ≤ w1.heap.size := hB.size
    clear SC DC
    go_wp2
    refine bodyPost_ret (v := .tuple #[.agg #[.bool false, .slice none 0 0], .int .i64 5]) (by simp [results, Tryz.results9, go_sem, *]) rfl ⟨.inr ⟨HBQ.out, rfl⟩, ?_⟩
    repeat (first | exact Below.refl _ _ | exact hB | refine Below.drew ?_ | refine below_drewN ?_ _ | refine bset ?_ (by simp <;> omega) _ | refine bal ?_ _)
/-- the adjugate -/
def adjG (g : Grid) : Grid := tab g.length g.length (Det.iadj g.length (gat g))
set_option maxRecDepth 100000 in
set_option maxHeartbeats 8000000 in
theorem adjM_c (v : Value) (g : Grid) (K : Nat) (w : World) (hv : IsM 0 w v g) (hr : Rct g (cols g)) (hn : g.length ≤ 65536) (hK1 : 1 ≤ K) (hbd : BdM K g) (hK : kb K (g.length - 1) ≤ 4294967296) :
    Calls Tryz.prog 31 #[v] w (MOr (sqB g = true) 5 (adjG g) w) := by
  have sc := fun W (q : Below w.heap.size w W) => square_c v g W (hv.keep q)
  obtain ⟨ag, cg, rfl, lv⟩ := hv
  have rc1 := fun V => rowsM_c ag g.length cg V
  have fc := fun V (q : Below w.heap.size w V) (e1 : V.cell? ⟨w.heap.size, 0, none⟩ = some (.slice ag g.length cg)) (h : sqB g = true) =>
    filled_c g.length g.length (Det.iadj g.length (gat g)) 77 #[.pointer (some ⟨w.heap.size, 0, none⟩)] V (adj1_c w.heap.size g K V (lv.box q e1) (sq_rct h hr) hn hK1 hbd hK) (ens Tryz.func77 (by kernel_rfl) rfl) (by omega) (by omega)
  have SC := Lib.hid sc
  have FC := Lib.hid fc
  have RC1 := Lib.hid rc1
  clear sc fc rc1 lv hr hbd
  unfold adjG
  obtain ⟨FF, hFF⟩ : ∃ FF, Det.iadj g.length (gat g) = FF := ⟨_, rfl⟩
  rw [hFF] at FC ⊢
  clear hFF
  obtain ⟨N, hN⟩ : ∃ N, g.length = N := ⟨_, rfl⟩
  rw [hN] at SC FC RC1 hn hK ⊢
  clear hN
  have hB := Below.refl w.heap.size w
  obtain ⟨b, hb⟩ : ∃ b, sqB g = b := ⟨_, rfl⟩
  have HBQ := Lib.hid hb
  rw [hb] at SC
  clear hb
  cases b with
  | true =>
    go_enter Tryz.func31, Tryz.ntmps31
    go_wp2_with fail
    refine (SC.out _ (by repeat (first | exact Below.refl _ _ | exact hB | refine Below.drew ?_ | refine below_drewN ?_ _ | refine bset ?_ (by simp <;> omega) _ | refine bal ?_ _))).mono ?_
    rintro e w1 ⟨rfl, hb1⟩
    have m0 : w1.cell? ⟨w.heap.size, 0, none⟩ = some (.slice ag N cg) := bkc hb1
    have zm0 := cell_lt m0
    have r0 : w1.cell? ⟨w.heap.size + 1, 0, none⟩ = some (.slice none 0 0) := bkc hb1
    have zr0 := cell_lt r0
    have r0f : w1.frozen? ⟨w.heap.size + 1, 0, none⟩ = false := bkcf (v := .slice none 0 0) hb1
    have hB : Below w.heap.size w w1 := bthen (by repeat (first | exact Below.refl _ _ | exact hB | refine Below.drew ?_ | refine below_drewN ?_ _ | refine bset ?_ (by simp <;> omega) _ | refine bal ?_ _)) hb1
    have hz : w.heap.size ≤ w1.heap.size := hB.size
    have HT1 := Lib.hid (show typOf w1 (w.heap.size + 1) = some 27 from typ_keep (typ_fresh (by simp)) hb1)
    go_wp2
    refine wp_region_grow_tail (w := w1) 5 (by kernel_rfl) (by kernel_rfl) ?_
    simp only [List.take_succ_cons, List.take_zero, List.drop_succ_cons, List.drop_zero]
    have m0g : ∀ gs, (grow w1 gs).cell? ⟨w.heap.size, 0, none⟩ = some (.slice ag N cg) := fun gs => bkeep gs.below m0
    have r0g : ∀ gs, (grow w1 gs).cell? ⟨w.heap.size + 1, 0, none⟩ = some (.slice none 0 0) := fun gs => bkeep gs.below r0
    repeat (go_big_quiet_step ((first | (go_at_call 52; with_reducible exact grow_of (RC1.out _)) | fail)))
    refine wpQuiet_nil ?_
    intro w2 hb2
    clear m0g
    clear r0g
    have m0 := bkeep hb2 m0
    have r0f := bkeepf hb2 r0 r0f
    have r0 := bkeep hb2 r0
    have hB := bthen hB hb2
    have hz := hB.size
    have HT2 := Lib.hid (typ_keep HT1.out hb2)
    clear HT1
    go_wp2_with fail
    refine (FC.out _ hB m0 HBQ.out).mono ?_
    rintro e w3 ⟨⟨v3, rfl, hv3⟩, hb3⟩
    have HT3 := typ_keep HT2.out hb3
    have HV := Lib.hid (hv3.rebase hz)
    obtain ⟨a3, c3, rfl⟩ := hv3.lit
    have m0 := bkeep hb3 m0
    have r0f := bkeepf hb3 r0 r0f
    have r0 := bkeep hb3 r0
    have hB := bthen hB hb3
    have hz := hB.size
    rw [tab_len] at HV ⊢
    clear FC hv3 m0 SC
    go_wp2
    refine bodyPost_ret (v := .tuple #[.agg #[.slice a3 N c3], .int .i64 0]) (by simp [results, Tryz.results31, go_sem, *]) rfl ⟨.inl ⟨HBQ.out, _, rfl, HV.out.setM HT3 _⟩, ?_⟩
    repeat (first | exact Below.refl _ _ | exact hB | refine Below.drew ?_ | refine below_drewN ?_ _ | refine bset ?_ (by simp <;> omega) _ | refine bal ?_ _)
  | false =>
    go_enter Tryz.func31, Tryz.ntmps31
    go_wp2_with fail
    refine (SC.out _ (by repeat (first | exact Below.refl _ _ | exact hB | refine Below.drew ?_ | refine below_drewN ?_ _ | refine bset ?_ (by simp <;> omega) _ | refine bal ?_ _))).mono ?_
    rintro e w1 ⟨rfl, hb1⟩
    have m0 : w1.cell? ⟨w.heap.size, 0, none⟩ = some (.slice ag N cg) := bkc hb1
    have zm0 := cell_lt m0
    have r0 : w1.cell? ⟨w.heap.size + 1, 0, none⟩ = some (.slice none 0 0) := bkc hb1
    have zr0 := cell_lt r0
    have r0f : w1.frozen? ⟨w.heap.size + 1, 0, none⟩ = false := bkcf (v := .slice none 0 0) hb1
    have hB : Below w.heap.size w w1 := bthen (by repeat (first | exact Below.refl _ _ | exact hB | refine Below.drew ?_ | refine below_drewN ?_ _ | refine bset ?_ (by simp <;> omega) _ | refine bal ?_ _)) hb1
    have hz : w.heap.size ≤ w1.heap.size := hB.size
    clear SC FC
    go_wp2
    refine bodyPost_ret (v := .tuple #[.agg #[.slice none 0 0], .int .i64 5]) (by simp [results, Tryz.results31, go_sem, *]) rfl ⟨.inr ⟨by rw [HBQ.out]; decide, rfl⟩, ?_⟩
    repeat (first | exact Below.refl _ _ | exact hB | refine Below.drew ?_ | refine below_drewN ?_ _ | refine bset ?_ (by simp <;> omega) _ | refine bal ?_ _)
set_option maxRecDepth 100000 in
set_option maxHeartbeats 8000000 in
theorem content_c (v : Value) (l : List Int) (k : Nat) (w : World) (hv : PRow 0 w v l) (hl : l.length ≤ 1099511627775) (hb : ∀ j, Bd k (l.getD j 0)) (hk : k ≤ 17179869184) :
    Calls Tryz.prog 81 #[v] w fun e w' => (∃ u, e = .returned u ∧ IsInt w' u (contL l)) ∧ Below w.heap.size w w' := by
  have HV := Lib.hid hv
  have HBD := Lib.hid hb
  have HCB := Lib.hid (contL_bd hb)
  have HC1 := Lib.hid (fun j (h : contL (l.take j) = 1) => contL_one h)
  obtain ⟨va, vc, rfl, -⟩ := hv
  clear hb
  have hB := Below.refl w.heap.size w
  go_enter Tryz.func81, Tryz.ntmps81
  go_wp2
  go_step3
  go_wp2
  refine wp_name fun w0 hW0 => ?_
  have hB0 : Below w.heap.size w w0 := by rw [hW0]; repeat (first | exact Below.refl _ _ | exact hB | refine Below.drew ?_ | refine below_drewN ?_ _ | refine bset ?_ (by simp <;> omega) _ | refine bal ?_ _)
  have HR0 := Lib.hid (show w0.cell? ⟨w.heap.size, 0, none⟩ = some (.bool false) ∧ w0.cell? ⟨w.heap.size, 1, none⟩ = some (.slice none 0 0) ∧ w0.frozen? ⟨w.heap.size, 0, none⟩ = false ∧ w0.frozen? ⟨w.heap.size, 1, none⟩ = false from by rw [hW0]; simp [go_sem])
  have HM0 := Lib.hid (show VarI (w.heap.size + 1) 0 w0 from by rw [hW0]; exact ⟨typ_fresh (by simp), false, none, 0, 0, by simp [go_sem], by simp [go_sem], by simp [go_sem], by simp [go_sem], isInt_zero _⟩)
  clear hW0
  go_step3
  go_wp2
  go_loopw [8] (fun x wr => ∃ j : Nat, j ≤ l.length ∧ x = .int .i64 j ∧ Below w.heap.size w wr ∧ Hid (wr.cell? ⟨w.heap.size, 0, none⟩ = some (.bool false) ∧ wr.cell? ⟨w.heap.size, 1, none⟩ = some (.slice none 0 0) ∧ wr.frozen? ⟨w.heap.size, 0, none⟩ = false ∧ wr.frozen? ⟨w.heap.size, 1, none⟩ = false) ∧ Hid (VarI (w.heap.size + 1) (contL (l.take j)) wr)) (fun x _ => l.length - (intOf x).toNat)
  case atStart => exact ⟨0, Nat.zero_le _, rfl, hB0, HR0, HM0⟩
  case round =>
    obtain ⟨j, hj, rfl, hBr, HR, hM⟩ := hrel
    obtain ⟨-, n0, a0, ln0, c0, m0, m1, m0f, m1f, hi0⟩ := hM.out
    obtain ⟨r0, r1, r0f, r1f⟩ := HR.out
    have HI0 := Lib.hid hi0
    have zm := cell_lt m0
    have zr := cell_lt r0
    have HR' := HR
    clear hi0 HR
    by_cases hlt : j < l.length
    · have hltI : (j : Int) < (l.length : Int) := by omega
      obtain ⟨a', c', he, -, vr⟩ := (HV.out.keep lims_int hBr).view
      obtain ⟨rfl, -, rfl⟩ := Value.slice.inj he
      obtain ⟨b, off, n2, a2, l2, cc2, rfl, d0, d1, hi⟩ := vr j hlt
      have HW := Lib.hid (contL_take hlt)
      have bs := HCB.out j hj
      have bj := HBD.out j
      obtain ⟨x, hx⟩ : ∃ x, l.getD j 0 = x := ⟨_, rfl⟩
      rw [hx] at hi HW bj
      obtain ⟨m, hm⟩ : ∃ m, contL (l.take j) = m := ⟨_, rfl⟩
      rw [hm] at HI0 HW hM bs
      have zd := cell_lt d0
      have gc := fun W (h : Below wr.heap.size wr W) => gcdI_c _ _ m x k W (HI0.out.keep h) (hi.keep h) bs bj hk
      clear hx hm he vr hi bs bj
      have hBw := Below.refl wr.heap.size wr
      go_wp2_with fail
      refine (gc _ (by repeat (first | exact Below.refl _ _ | exact hBw | refine Below.drew ?_ | refine below_drewN ?_ _ | refine bset ?_ (by simp <;> omega) _ | refine bal ?_ _))).mono ?_
      rintro e w2 ⟨⟨u, rfl, hu⟩, hb2⟩
      have hb2' : Below wr.heap.size wr w2 := bthen (by repeat (first | exact Below.refl _ _ | exact hBw | refine Below.drew ?_ | refine below_drewN ?_ _ | refine bset ?_ (by simp <;> omega) _ | refine bal ?_ _)) hb2
      have HU := Lib.hid hu
      obtain ⟨nu, au, cu, lu, rfl, -⟩ := hu
      unfold iv at *
      have HV2 := Lib.hid ((hM.out.keep hb2').put HU.out)
      replace r0f := bkeepf hb2' r0 r0f
      replace r1f := bkeepf hb2' r1 r1f
      replace m0f := bkeepf hb2' m0 m0f
      replace m1f := bkeepf hb2' m1 m1f
      replace r0 := bkeep hb2' r0
      replace r1 := bkeep hb2' r1
      replace m0 := bkeep hb2' m0
      replace m1 := bkeep hb2' m1
      have hB2 := bthen hBr hb2'
      clear gc d0 d1 hb2 HI0
      go_wp2
      refine wp_name fun w3 hW3 => ?_
      have HV3 := Lib.hid (show VarI (w.heap.size + 1) (gcdI m x) w3 from by rw [hW3]; exact HV2.out)
      have HR3 := Lib.hid (show w3.cell? ⟨w.heap.size, 0, none⟩ = some (.bool false) ∧ w3.cell? ⟨w.heap.size, 1, none⟩ = some (.slice none 0 0) ∧ w3.frozen? ⟨w.heap.size, 0, none⟩ = false ∧ w3.frozen? ⟨w.heap.size, 1, none⟩ = false from by
        rw [hW3]
        exact ⟨cell_far2 r0 (by omega) _ _ _ _, cell_far2 r1 (by omega) _ _ _ _, by rw [World.frozen?_setCell, World.frozen?_setCell]; exact r0f, by rw [World.frozen?_setCell, World.frozen?_setCell]; exact r1f⟩)
      have hB3 : Below w.heap.size w w3 := by rw [hW3]; exact bset (bset hB2 (by show w.heap.size ≤ w.heap.size + 1; omega) _) (by show w.heap.size ≤ w.heap.size + 1; omega) _
      clear hW3 HV2 r0 r1 r0f r1f m0 m1 m0f m1f hB2 HU hb2' hM HR'
      rw [← HW.out] at HV3
      obtain ⟨z, hz⟩ : ∃ z, contL (l.take (j + 1)) = z := ⟨_, rfl⟩
      have HZ := Lib.hid hz
      rw [hz] at HV3
      clear hz HW
      obtain ⟨-, n3, a3, ln3, c3, q0, q1, -, -, qI⟩ := HV3.out
      have HQI := Lib.hid qI
      clear qI
      have zq := cell_lt q0
      have oc := fun W => of_c 1 W (by decide) (by decide)
      obtain ⟨c, hc⟩ : ∃ c, cmpI z 1 = c := ⟨_, rfl⟩
      have HC := Lib.hid hc
      have kc := fun vy W (q : Below w3.heap.size w3 W) (hy : IsInt W vy 1) => cmp_c _ vy z 1 W (HQI.out.keep q) hy
      rw [hc] at kc
      clear hc
      have hBx := Below.refl w3.heap.size w3
      have HS := Lib.hid (show ∀ W, Below w3.heap.size w3 W → W.cell? ⟨w.heap.size + 1, 0, none⟩ = some (.bool n3) ∧ W.cell? ⟨w.heap.size + 1, 1, none⟩ = some (.slice a3 ln3 c3) from fun W q => ⟨bkeep q q0, bkeep q q1⟩)
      go_region_held3 (fun W => W.cell? ⟨w.heap.size + 1, 0, none⟩ = some (.bool n3) ∧ W.cell? ⟨w.heap.size + 1, 1, none⟩ = some (.slice a3 ln3 c3))
        (first | (refine HS.out _ ?_; (repeat (first | exact Below.refl _ _ | exact hBx | refine Below.drew ?_ | refine below_drewN ?_ _ | refine bset ?_ (by simp <;> omega) _ | refine bal ?_ _)); done) | fail)
        (first
        | (go_at_call 23; refine (oc _).mono ?_; rintro e w5 ⟨⟨v5, rfl, hi5⟩, hb5⟩; (have hBd : Below w3.heap.size w3 w5 := bthen (by repeat (first | exact Below.refl _ _ | exact hBx | refine Below.drew ?_ | refine below_drewN ?_ _ | refine bset ?_ (by simp <;> omega) _ | refine bal ?_ _)) hb5; clear hBx; have hBx := hBd; clear hBd); have HI5 := Lib.hid hi5; obtain ⟨n5, a5, c5, l5, rfl, -⟩ := hi5; unfold iv at *)
        | (go_at_call 123; refine (kc _ _ ?_ (HI5.out.keep ?_)).mono ?_; (repeat (first | exact Below.refl _ _ | exact hBx | refine Below.drew ?_ | refine below_drewN ?_ _ | refine bset ?_ (by simp <;> omega) _ | refine bal ?_ _)); (have hBy := Below.refl w5.heap.size w5; (repeat (first | exact Below.refl _ _ | exact hBy | refine Below.drew ?_ | refine below_drewN ?_ _ | refine bset ?_ (by simp <;> omega) _ | refine bal ?_ _))); rintro e w6 ⟨rfl, hb6⟩; (have hBd : Below w3.heap.size w3 w6 := bthen (by repeat (first | exact Below.refl _ _ | exact hBx | refine Below.drew ?_ | refine below_drewN ?_ _ | refine bset ?_ (by simp <;> omega) _ | refine bal ?_ _)) hb6; clear hBx; have hBx := hBd; clear hBd))
        | fail)
      all_goals
        have HV6 := Lib.hid (HV3.out.keep hBx)
        obtain ⟨q0, q1⟩ := HS.out _ hBx
        have r0f := bkeepf hBx HR3.out.1 HR3.out.2.2.1
        have r1f := bkeepf hBx HR3.out.2.1 HR3.out.2.2.2
        have r0 := bkeep hBx HR3.out.1
        have r1 := bkeep hBx HR3.out.2.1
        have zq := cell_lt q0
        have zr := cell_lt r0
        have hB6 := bthen hB3 hBx
        have HQ6 := Lib.hid (HQI.out.keep hBx)
        by_cases hc0 : c = 0
        · have hce : (c == 0) = true := by simp [hc0]
          have HZ1 : Hid (z = 1) := Lib.hid (by
            have h := HC.out
            rw [hc0] at h
            unfold cmpI at h
            split at h
            · cases h
            · split at h
              · assumption
              · cases h)
          have HE := Lib.hid (show z = contL l from by rw [HC1.out (j + 1) (by rw [HZ.out]; exact HZ1.out)]; exact HZ1.out)
          have hp := Lib.hid (HQ6.out.put2 r0 r1)
          rw [HE.out] at hp
          clear HV6 HR3 HV3 HS kc oc hb6 hb5 hBx hB3
          go_wp2
          rw [Exit.noGoto_ret]
          refine bodyPost_ret (v := .agg #[.bool n3, .slice a3 ln3 c3]) (by simp [results, Tryz.results81, go_sem, *]) rfl ⟨⟨_, rfl, hp.out _ _⟩, ?_⟩
          repeat (first | exact Below.refl _ _ | exact hB6 | refine Below.drew ?_ | refine below_drewN ?_ _ | refine bset ?_ (by simp <;> omega) _ | refine bal ?_ _)
        · have hce : (c == 0) = false := by simp [hc0]
          have HR6 := Lib.hid (show w6.cell? ⟨w.heap.size, 0, none⟩ = some (.bool false) ∧ w6.cell? ⟨w.heap.size, 1, none⟩ = some (.slice none 0 0) ∧ w6.frozen? ⟨w.heap.size, 0, none⟩ = false ∧ w6.frozen? ⟨w.heap.size, 1, none⟩ = false from ⟨r0, r1, r0f, r1f⟩)
          rw [← HZ.out] at HV6
          clear HR3 HV3 HS kc oc hb6 hb5 hBx hB3 hc0
          go_wp2
          exact ⟨⟨j + 1, hlt, by go_num, hB6, HR6, HV6⟩, meas hlt (by go_num) rfl⟩
    · obtain rfl : j = l.length := by omega
      rw [List.take_length] at HI0
      have hp := Lib.hid (HI0.out.put2 r0 r1)
      go_wp2
      rw [Exit.noGoto_ret]
      refine bodyPost_ret (v := .agg #[.bool n0, .slice a0 ln0 c0]) (by simp [results, Tryz.results81, go_sem, *]) rfl ⟨⟨_, rfl, hp.out _ _⟩, ?_⟩
      repeat (first | exact Below.refl _ _ | exact hBr | refine Below.drew ?_ | refine below_drewN ?_ _ | refine bset ?_ (by simp <;> omega) _ | refine bal ?_ _)
end Go.Proofs.YthlphfjmdgcpdaaGreatDoor

