/- A row of int64s, an int64, an int that came in, with their bulk. -/
import Derived.Test.YthaohpfbengabaaDoorR11
set_option linter.unusedVariables false
set_option linter.unusedSimpArgs false
namespace Go.Proofs.YthaohpfbengabaaDoor
open Go.ChangeShapes Go.WideShapes Go.ChangeAt Go.RowKit Go.Joins Go.Deep
set_option linter.unusedVariables false
set_option linter.unusedSimpArgs false
section
variable {H : Type} {enc : TypeId × Value → H} {W : World} {b0 : Nat} {r : Reach} {v : Value} {d : DataW H} {p : List MemPlace}
set_option maxRecDepth 100000 in
theorem open_grid5 (hv : Value.okWide Tryd.prog W r b0 23 v) (h : DataW.Trod enc Tryd.prog W 0 (fun _ => true) true 23 v d p) :
    ∃ g, GridI W v g ∧ sumG g + g.length ≤ Rows.uptoBulk d := by
  obtain ⟨a, n, cap, rfl⟩ := okWide_slice Tryd.underlying23 hv
  obtain ⟨fuel, hf⟩ := h
  rcases open_int_rows Tryd.underlying23 Tryd.underlying53 Tryd.underlying2 (by kernel_rfl) (by kernel_rfl) hf with ⟨hcs, hx⟩ | ⟨x, len, c, A, L, C, Z, hcs, _, hl, hm, hx, hr⟩
  · simp [Value.cells] at hcs
    obtain ⟨rfl, rfl, rfl⟩ := hcs
    exact ⟨[], ⟨_, _, rfl, fun k hk => absurd hk (by simp)⟩, by simp [sumG]⟩
  · simp [Value.cells] at hcs
    obtain ⟨rfl, rfl, rfl⟩ := hcs
    simp only [Prod.mk.injEq] at hx
    have hlen : ∀ r, r < n → ((Z r).take (L r)).length = L r := fun r hr' => by
      obtain ⟨_, h1, _, h2, _⟩ := hr r (by omega)
      rw [List.length_take]; omega
    refine ⟨(List.range n).map fun r => (Z r).take (L r), ⟨_, _, by rw [List.length_map, List.length_range], fun k hk => ?_⟩, ?_⟩
    · rw [List.length_map, List.length_range] at hk
      obtain ⟨h1, h2, h3, h4, h5, h6, h7⟩ := hr k (by omega)
      obtain ⟨b, o, rfl⟩ := plain_at (hr 0 (by omega)).1
      rw [add_plain] at h1
      refine ⟨b, o, _, rfl, h1, ?_⟩
      have e : ((List.range n).map fun r => (Z r).take (L r)).getD k [] = (Z k).take (L k) := by simp [hk]
      rw [e]
      refine ⟨A k, C k, by rw [hlen k hk], fun j hj => ?_⟩
      rw [hlen k hk] at hj
      cases hA : A k with
      | none => have := h6 hA; omega
      | some a' =>
        obtain ⟨_, h8⟩ := h7 a' hA
        have h9 := h8 j (by omega)
        obtain ⟨b', o', rfl⟩ := plain_at (h8 0 (by omega))
        rw [add_plain] at h9
        have e2 : ((Z k).take (L k)).getD j 0 = (Z k).getD j 0 := by
          rw [List.getD_eq_getElem?_getD, List.getD_eq_getElem?_getD, List.getElem?_take_of_lt hj]
        rw [e2]
        refine ⟨b', o', rfl, h9, ?_⟩
        refine i64_of (h5 _ ?_)
        rw [List.getD_eq_getElem?_getD, List.getElem?_eq_getElem (by omega)]
        exact List.getElem_mem _
    · rw [hx.1]
      have h0 : ∀ r ∈ List.range n, L r + 1 ≤ Rows.uptoBulk (intRow (H := H) .i64 (A r) (L r) (Z r)) := fun r hr' => by
        have hr2 : r < n := by simpa using hr'
        obtain ⟨h1, h2, h3, h4, h5, h6, h7⟩ := hr r (by omega)
        cases hA : A r with
        | none => have := h6 hA; simp [intRow, Rows.uptoBulk]; omega
        | some a' =>
          have := bulks.length_le (H := H) (lits .i64 ((Z r).take (L r)))
          simp only [lits, List.length_map, List.length_take] at this
          simp only [intRow, Rows.uptoBulk, lits]
          omega
      have h1 := bulks.sum_le (fun r => intRow (H := H) .i64 (A r) (L r) (Z r)) L (List.range n) h0
      have h2 : sumG ((List.range n).map fun r => (Z r).take (L r)) = ((List.range n).map L).sum := by
        unfold sumG
        rw [List.map_map]
        congr 1
        apply List.map_congr_left
        intro r hr'
        exact hlen r (by simpa using hr')
      simp only [Rows.uptoBulk]
      rw [h2, List.length_map, List.length_range]
      rw [List.length_range] at h1
      omega
set_option maxRecDepth 100000 in
theorem open_i64row (hv : Value.okWide Tryd.prog W r b0 53 v) (h : DataW.Trod enc Tryd.prog W 0 (fun _ => true) true 53 v d p) :
    ∃ l, RowI W v l ∧ l.length ≤ Rows.uptoBulk d := by
  obtain ⟨a, n, cap, rfl⟩ := okWide_slice Tryd.underlying53 hv
  obtain ⟨fuel, hf⟩ := h
  rcases open_ints Tryd.underlying53 Tryd.underlying2 (by kernel_rfl) hf with ⟨hcs, hx⟩ | ⟨a', len, c, zs, hcs, _, hl, hm, hz, hx, hc, hwf⟩
  · simp [Value.cells] at hcs
    obtain ⟨rfl, rfl, rfl⟩ := hcs
    exact ⟨[], ⟨_, _, rfl, fun k hk => absurd hk (by simp)⟩, by simp⟩
  · simp [Value.cells] at hcs
    obtain ⟨rfl, rfl, rfl⟩ := hcs
    simp only [if_true] at hz
    simp only [Prod.mk.injEq] at hx
    have hlen : (zs.take n).length = n := by rw [List.length_take]; omega
    refine ⟨zs.take n, ⟨_, _, by rw [hlen], fun k hk => ?_⟩, ?_⟩
    · rw [hlen] at hk
      obtain ⟨b, o, rfl⟩ := plain_at (hc 0 (by omega))
      have h9 := hc k (by omega)
      rw [add_plain] at h9
      have e2 : (zs.take n).getD k 0 = zs.getD k 0 := by rw [List.getD_eq_getElem?_getD, List.getD_eq_getElem?_getD, List.getElem?_take_of_lt hk]
      rw [e2]
      refine ⟨b, o, rfl, h9, i64_of (hwf _ ?_)⟩
      rw [List.getD_eq_getElem?_getD, List.getElem?_eq_getElem (by omega)]
      exact List.getElem_mem _
    · have h1 := bulks.length_le (H := H) (lits .i64 (zs.take n))
      simp only [lits, List.length_map] at h1
      rw [hx.1]
      simp only [Rows.uptoBulk, lits]
      omega
end
end Go.Proofs.YthaohpfbengabaaDoor

