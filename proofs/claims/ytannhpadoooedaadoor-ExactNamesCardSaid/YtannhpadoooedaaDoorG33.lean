/- Texts of this seat, laid together: VmA, PrgD. Each opens with its own remark, which says what it proves, and under which conditions. -/
import Derived.Test.YtannhpadoooedaaDoorG12
import Derived.Laws.AppendOwn
import Derived.Test.YtannhpadoooedaaDoorG14
import Derived.Test.YtannhpadoooedaaDoorG07
/- slices.Clone at []integer.Int and at [][]integer.Int. -/
namespace Go.Proofs.YtannhpadoooedaaDoor
open Num
open Go.ChangeShapes Go.WideShapes Go.ChangeAt Go.RowKit
set_option linter.unusedVariables false
set_option linter.unusedSimpArgs false
/-- what lies in a block from off on -/
def cellsAt (w : World) (b off m : Nat) : List Value := (List.range m).map fun j => (w.cell? ⟨b, off + j, none⟩).getD .nilFunc
theorem cellsAt_len (w : World) (b off m : Nat) : (cellsAt w b off m).length = m := by simp [cellsAt]
theorem cellsAt_get {w : World} {b off m j : Nat} {v : Value} (h : j < m) (hv : w.cell? ⟨b, off + j, none⟩ = some v) : (cellsAt w b off m)[j]? = some v := by simp [cellsAt, h, hv]
theorem cellsAt_lt {w : World} {b off m j : Nat} {v : Value} (h : (cellsAt w b off m)[j]? = some v) : j < m := by
  have := (List.getElem?_eq_some_iff.1 h).1
  rwa [cellsAt_len] at this
theorem cellsAt_at {w W : World} (hW : Below w.heap.size w W) {b off m : Nat} (hc : ∀ j, j < m → ∃ v, w.cell? ⟨b, off + j, none⟩ = some v) : ∀ j u, (cellsAt w b off m)[j]? = some u → W.cell? ((⟨b, off, none⟩ : Addr).add j) = some u := by
  intro j u hj
  have hl := cellsAt_lt hj
  obtain ⟨v, hv⟩ := hc j hl
  rw [cellsAt_get hl hv] at hj
  cases hj
  have := bkeep hW hv
  unfold Addr.add
  split
  · subst_vars; simpa using this
  · exact this
theorem cellsAt_all {w : World} {b off m : Nat} {p : Value → Prop} (hc : ∀ j, j < m → ∃ v, w.cell? ⟨b, off + j, none⟩ = some v ∧ p v) : ∀ u ∈ cellsAt w b off m, p u := by
  intro u hu
  obtain ⟨j, hj⟩ := List.mem_iff_getElem?.1 hu
  have hl := cellsAt_lt hj
  obtain ⟨v, hv, hp⟩ := hc j hl
  rw [cellsAt_get hl hv] at hj
  cases hj; exact hp
theorem intsF_cells {R : World → Value → Int → Prop} {w : World} {b off n : Nat} {f : Nat → Int} (h : IntsF R w b off n f) : ∀ j, j < n * 2 → ∃ v, w.cell? ⟨b, off + j, none⟩ = some v ∧ v.oneCell' = true := by
  intro j hj
  obtain ⟨nb, a, len, c, h1, h2, _⟩ := h (j / 2) (by omega)
  by_cases e : j % 2 = 0
  · exact ⟨_, by rw [show off + j = off + j / 2 * 2 by omega]; exact h1, rfl⟩
  · exact ⟨_, by rw [show off + j = off + j / 2 * 2 + 1 by omega]; exact h2, rfl⟩
theorem ownF_of_cells {R : World → Value → Int → Prop} (hR : Lims R) {E : TypeId} {w w' : World} {b off n : Nat} {f : Nat → Int} {v' : Value} (h : IntsF R w b off n f) (hb : Below w.heap.size w w') (hO : w'.ownsRow w.heap.size E 2 v' n (cellsAt w b off (n * 2))) : OwnF R E w w' v' n f := by
  refine ⟨_, ⟨hO, hb⟩, fun k hk => ?_⟩
  obtain ⟨nb, a, len, c, h1, h2, h3⟩ := h k hk
  exact ⟨nb, a, len, c, cellsAt_get (by omega) h1, cellsAt_get (by omega) h2, hR _ _ _ _ h3 (.of_below hb)⟩
set_option maxRecDepth 100000 in
set_option maxHeartbeats 1000000 in
theorem cloneRow_c (base : Nat) (v : Value) (l : List Int) (w : World) (hv : PRow base w v l) (h1 : l.length ≤ 1099511627776) :
    Calls Tryd.prog 42 #[v] w fun e w' => (∃ v', e = .returned v' ∧ RowO IsInt 34 w.heap.size w' v' l) ∧ Below w.heap.size w w' := by
  obtain ⟨a, ca, rfl, hlc, hcm, hl⟩ := hv
  have hB0 := Below.refl w.heap.size w
  have hq := fun w => Lib.run_eql_slice_nil w 31 34 a l.length ca 0 0 Tryd.underlying31
  cases a with
  | none =>
    obtain rfl : l = [] := by rcases hl with h | ⟨b, off, h, _⟩
                              · exact h
                              · cases h
    have hq2 : ∀ w, (binOp .eql 31 (.slice none 0 ca) (.slice none 0 0)).run Tryd.prog w = .ok (.bool true) w := hq
    clear hq hl
    go_enter Tryd.func42, Tryd.ntmps42
    go_wp2
    go_ret
    exact ⟨⟨_, rfl, RowO.nil _ _ _ _⟩, Below.refl _ _⟩
  | some ad =>
    obtain ⟨i0, z0, hi, hz0, hz1, hz2, hz3⟩ := elInt.info
    obtain ⟨xs, hx1, hx2, hx3, HX⟩ : ∃ xs : List Value, xs.length = l.length * 2 ∧ (∀ (W : World), Below w.heap.size w W → ∀ j u, xs[j]? = some u → W.cell? (ad.add j) = some u) ∧ (∀ u ∈ xs, u.oneCell' = true) ∧
        Hid (∀ v' w', Below w.heap.size w w' → w'.ownsRow w.heap.size 34 2 v' l.length xs → RowO IsInt 34 w.heap.size w' v' l) := by
      rcases hl with rfl | ⟨b, off, h, hb, ht, hi'⟩
      · refine ⟨[], by simp, fun W hW j u hj => by simp at hj, fun u hu => by simp at hu, Lib.hid fun v' w' hb' hO => ?_⟩
        have : OwnF IsInt 34 w w' v' ([] : List Int).length (fun k => ([] : List Int).getD k 0) := ⟨[], ⟨hO, hb'⟩, fun k hk => absurd hk (by simp)⟩
        exact this.rowO
      · cases h
        refine ⟨cellsAt w b off (l.length * 2), cellsAt_len _ _ _ _, fun W hW => cellsAt_at hW fun j hj => ?_, cellsAt_all (intsF_cells hi'), Lib.hid fun v' w' hb' hO => ?_⟩
        · obtain ⟨v, hv, _⟩ := intsF_cells hi' j hj; exact ⟨v, hv⟩
        · exact (ownF_of_cells lims_int hi' hb' hO).rowO
    clear hl
    have ho : (w.alloc (.cells #[] 34)).ownsRow w.heap.size 34 2 (.slice (some ⟨w.heap.size, 0, none⟩) 0 0) 0 [] := ⟨rfl, .inr ⟨w.heap.size, 0, #[], rfl, Nat.le_refl _, (MapKept.heap_alloc w _).1, Nat.le_refl _, by unfold maxLen; omega, rfl, rfl⟩⟩
    go_enter Tryd.func42, Tryd.ntmps42
    go_wp2_with (at_builtin; refine wpList_append_own _ rfl _ _ 31 rfl w.heap.size 34 i0 z0 2 32 Tryd.underlying31 hi hz0 hz1 hz2 hz3 (by decide) _ 0 [] rfl ho ad l.length ca xs rfl hx1 (hx2 _ (bal hB0 _)) hx3 (by unfold maxLen; omega) (by omega) (by simp) ?_)
    intro v' w1 hown hgrow _
    have hbel := below_append (wr := w) (bal hB0 _) ho hgrow
    try simp only [Nat.zero_add, List.nil_append] at hown
    have hr := HX.out v' w1 hbel hown
    have HU := Lib.hid hr
    obtain ⟨a', c', rfl⟩ := hr.ex
    clear hr
    clear hown hx1 hx2 hx3 hq hgrow ho
    go_wp2
    go_ret
    exact ⟨⟨_, rfl, HU.out⟩, hbel⟩
end Go.Proofs.YtannhpadoooedaaDoor
/- slices.Clone at []int. -/
namespace Go.Proofs.YtannhpadoooedaaDoor
open Go.ChangeShapes Go.WideShapes Go.ChangeAt Go.RowKit
set_option linter.unusedVariables false
set_option linter.unusedSimpArgs false
def icel (L : List Int) : List Value := L.map fun x => .int .i64 x
theorem icel_len (L : List Int) : (icel L).length = L.length := by simp [icel]
theorem icel_get (L : List Int) (k : Nat) (h : k < L.length) : (icel L)[k]? = some (.int .i64 (L.getD k 0)) := by simp [icel, h]
theorem icel_one (L : List Int) : ∀ v ∈ icel L, v.oneCell' = true := by
  intro v hv; simp only [icel, List.mem_map] at hv; obtain ⟨x, _, rfl⟩ := hv; rfl
theorem infoI : (Tryd.prog.info? 3).map (fun i => (i.zero, i.size, i.bytes)) = some (some (.int .i64 0), 1, 8) := by kernel_rfl
theorem elI : Elt Tryd.prog 23 3 1 8 := Elt.mk' Tryd.underlying23 infoI rfl (by decide) (by decide)
theorem own_ints {w : World} {base : Nat} {v : Value} {n : Nat} {L : List Int} (h : w.ownsRow base 3 1 v n (icel L)) : ∃ a c, v = .slice a L.length c ∧ IntsV w a c L ∧ FromA base 3 w a := by
  have hn : L.length = n := by have := h.1; rw [icel_len] at this; omega
  subst hn
  have h' := h
  rcases h.2 with ⟨rfl, h1⟩ | ⟨g, cap, cur, rfl, hb, hgg, hc, _⟩
  · exact ⟨none, 0, by rw [h1], .inl (List.length_eq_zero_iff.1 h1), FromA.nil _ _ _⟩
  · refine ⟨_, _, rfl, .inr ⟨g, 0, rfl, hc, fun k hk => ?_⟩, fun p e => by cases e; exact ⟨hb, by unfold typOf; rw [hgg]⟩⟩
    rw [Nat.zero_add, World.ownsRow.cellAt h' k (by omega), icel_get L k hk]
set_option maxRecDepth 100000 in
set_option maxHeartbeats 1000000 in
theorem cloneInts_c (a : Option Addr) (ca : Nat) (L : List Int) (w : World) (ha : IntsV w a ca L) (hn : a = none → L = []) (h1 : L.length ≤ 1099511627776) :
    Calls Tryd.prog 66 #[.slice a L.length ca] w fun e w' => (∃ a' c', e = .returned (.slice a' L.length c') ∧ IntsV w' a' c' L ∧ FromA w.heap.size 3 w' a') ∧ Below w.heap.size w w' := by
  have hB0 := Below.refl w.heap.size w
  have hq := fun w => Lib.run_eql_slice_nil w 23 3 a L.length ca 0 0 Tryd.underlying23
  cases a with
  | none =>
    obtain rfl : L = [] := hn rfl
    have hq2 : ∀ w, (binOp .eql 23 (.slice none 0 ca) (.slice none 0 0)).run Tryd.prog w = .ok (.bool true) w := hq
    clear hq
    go_enter Tryd.func66, Tryd.ntmps66
    go_wp2
    go_ret
    exact ⟨⟨none, 0, rfl, .inl rfl, FromA.nil _ _ _⟩, Below.refl _ _⟩
  | some ad =>
    obtain ⟨i0, z0, hi, hz0, hz1, hz2, hz3⟩ := elI.info
    have hnews : ∀ (W : World), Below w.heap.size w W → ∀ j u, (icel L)[j]? = some u → W.cell? (ad.add j) = some u := by
      intro W hW j v hj
      have hjl : j < L.length := by have := (List.getElem?_eq_some_iff.1 hj).1; rwa [icel_len] at this
      rw [icel_get L j hjl] at hj
      cases hj
      rcases ha with h | ⟨b, off, h, _, hcell⟩
      · subst h; simp at hjl
      · cases h
        have := bkeep hW (hcell j hjl)
        unfold Addr.add
        split
        · subst_vars; simpa using this
        · exact this
    clear ha
    have ho : (w.alloc (.cells #[] 3)).ownsRow w.heap.size 3 1 (.slice (some ⟨w.heap.size, 0, none⟩) 0 0) 0 [] := ⟨rfl, .inr ⟨w.heap.size, 0, #[], rfl, Nat.le_refl _, (MapKept.heap_alloc w _).1, Nat.le_refl _, by unfold maxLen; omega, rfl, rfl⟩⟩
    go_enter Tryd.func66, Tryd.ntmps66
    go_wp2_with (at_builtin; refine wpList_append_own _ rfl _ _ 23 rfl w.heap.size 3 i0 z0 1 8 Tryd.underlying23 hi hz0 hz1 hz2 hz3 (by decide) _ 0 [] rfl ho ad L.length ca (icel L) rfl (by rw [icel_len, Nat.mul_one]) (hnews _ (bal hB0 _)) (icel_one L) (by unfold maxLen; omega) (by omega) (by simp) ?_)
    intro v' w1 hown hgrow _
    have hbel := below_append (wr := w) (bal hB0 _) ho hgrow
    obtain ⟨a', c', rfl, hu, hfr⟩ := own_ints hown
    have HU := Lib.hid (And.intro hu hfr)
    clear hown hnews hq hgrow hu ho hfr
    go_wp2
    go_ret
    exact ⟨⟨a', c', rfl, HU.out.1, HU.out.2⟩, hbel⟩
end Go.Proofs.YtannhpadoooedaaDoor
