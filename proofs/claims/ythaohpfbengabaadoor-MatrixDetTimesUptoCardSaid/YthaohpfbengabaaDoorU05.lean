/- Texts of this seat, laid together (what the earlier ones leave out): MwY. Each opens with its own remark, which says what it proves, and under which conditions. -/
import Derived.Test.YthaohpfbengabaaDoorR01
import Derived.Test.YthaohpfbengabaaDoorR02
import Derived.Test.YthaohpfbengabaaDoorR03
import Derived.Test.YthaohpfbengabaaDoorR04
import Derived.Test.YthaohpfbengabaaDoorR05
import Derived.Test.YthaohpfbengabaaDoorR06
import Derived.Test.YthaohpfbengabaaDoorR07
import Derived.Test.YthaohpfbengabaaDoorR08
import Derived.Test.YthaohpfbengabaaDoorR09
import Derived.Test.YthaohpfbengabaaDoorR10
import Derived.Test.YthaohpfbengabaaDoorR11
import Derived.Test.YthaohpfbengabaaDoorR12
import Derived.Test.YthaohpfbengabaaDoorR13
import Derived.Test.YthaohpfbengabaaDoorR14
import Derived.Test.YthaohpfbengabaaDoorR16
import Derived.Test.YthaohpfbengabaaDoorU01
import Derived.Test.YthaohpfbengabaaDoorU02
import Derived.Test.YthaohpfbengabaaDoorU03
import Derived.Test.YthaohpfbengabaaDoorU04
import Derived.WalkKit
import Derived.ProofKit
import Derived.OpenShut
import Derived.Deep.QuietTactic
import Derived.BigQuiet
import Derived.Outline
import Derived.Lib.Hide
import Derived.WalkSmall
import Derived.WalkSpells
import Derived.WalkLawsBesides
import Derived.Deep.RegionWith
import Derived.Deep.RegionHeld3
import Derived.Laws.CopyOwn
import Derived.Shelf.Small.Bits
import Derived.Laws.AppendOwn
import Derived.Deep.AppendLies
import Derived.OneCell
import Derived.Laws.BitsAllLaws
import Derived.Shelf.Spec.TrailingZeros
import Derived.Shelf.Strings.Builder1
import Derived.Shelf.Strings.Trim
import Derived.Deep.Cut
import Derived.Deep.DeepCutAuto
import Derived.ArgAppend
import Derived.Deep.DeepFit
import Derived.Shelf.Abstract
import Derived.Laws.EntriesVeiled
import Derived.RegionTactic
import Derived.ChangeAlike
import Derived.Laws.OwnMore
import Derived.Deep.Onto
import Derived.Deep.DrawnRows
import Derived.Deep.RegionLaw
import Derived.Deep.LoopGhost
import Derived.RangeFuncNested
import Derived.RangeFuncBound
import Derived.RangeFuncCalls
import Derived.RangeFuncLeaves
import Derived.Shelf.RegionOpen
import Derived.OwnWalkIn
import Derived.TacticsInMore
import Derived.LoopNIn
import Derived.LoopIn
import Derived.Laws.CopyRow
import Derived.Laws.Rows
import Derived.Laws.Tables
import Derived.StillTail
import Derived.Deep.Quiet
import Derived.StillTailTactics
import Derived.Lib.AppendZeros
import Derived.Laws.IdiomStrings
import Derived.Laws.BytesArg
import Derived.Laws.RangeString
import Derived.Lib.OthersKept
import Derived.Maps.AppendAt
import Derived.Shelf.Strings.OnBuilder
import Derived.Lib.SmallJoins
import Derived.Deep.Slices
import Derived.Deep.Matrix
import Derived.Deep.Fields
import Derived.ChangeSame
import Derived.DataShut
import Derived.SizedLaws
set_option linter.unusedVariables false
set_option linter.unusedSimpArgs false
/- matrices, plain: determinants of what is turned, swapped, multiplied; ranks. -/
namespace Go.Proofs.YthaohpfbengabaaDoor
open Num
open Go.ChangeShapes Go.WideShapes Go.ChangeAt Go.RowKit
theorem getD_out {α : Type} {l : List α} {i : Nat} {d : α} (h : l.length ≤ i) : l.getD i d = d := by rw [List.getD_eq_getElem?_getD, List.getElem?_eq_none h]; rfl
theorem gat_turn {g : Grid} (hr : Rct g (cols g)) (i j : Nat) : gat (turnG g) i j = gat g j i := by
  unfold turnG
  by_cases h : i < cols g ∧ j < g.length
  · rw [tab_gat h.1 h.2]
  · rw [tab_out h]
    symm
    unfold gat
    by_cases hj : j < g.length
    · exact getD_out (by rw [hr j hj]; exact Nat.le_of_not_lt fun h2 => h ⟨h2, hj⟩)
    · rw [getD_out (l := g) (by omega)]; rfl
theorem det_turn {g : Grid} (hr : Rct g (cols g)) (hs : g.length = cols g) : Det.detE (turnG g).length (gat (turnG g)) = Det.detE g.length (gat g) := by
  rw [turn_len, ← hs, show gat (turnG g) = fun i j => gat g j i from by funext i j; exact gat_turn hr i j]
  exact Det.detE_tr _ _
theorem piv_turn {g : Grid} (hr : Rct g (cols g)) (hp : 0 < cols g) : (pivL (turnG g)).length = (pivL g).length := by
  show Det.rk (turnG g).length (cols (turnG g)) (gat (turnG g)) = Det.rk g.length (cols g) (gat g)
  rw [turn_len, turn_cols hp, show gat (turnG g) = fun i j => gat g j i from by funext i j; exact gat_turn hr i j]
  exact Det.rk_tr _ _ _
theorem det_zero_piv {g : Grid} (hs : g.length = cols g) : Det.detE g.length (gat g) = 0 ↔ (pivL g).length < g.length := by
  unfold pivL; rw [← hs]; exact Det.detE_zero _ _
theorem piv_le (g : Grid) : (pivL g).length ≤ g.length := by
  obtain ⟨q, h⟩ := Det.inv_all g.length (cols g) (gat g) (cols g) (Nat.le_refl _)
  exact h.k
theorem det_times {g h : Grid} {n : Nat} (e1 : g.length = n) (e2 : cols g = n) (e4 : cols h = n) : Det.detE n (gat (timesG g h)) = Det.detE n (gat g) * Det.detE n (gat h) := by
  rw [← Det.detE_mul]
  exact Det.detE_congr fun i j hi hj => by rw [times_gat (by omega) (by omega)]; unfold Det.imul; rw [e2]
def swapG (g : Grid) (i k : Nat) : Grid := (g.set i (g.getD k [])).set k (g.getD i [])
theorem swap_len (g : Grid) (i k : Nat) : (swapG g i k).length = g.length := by simp [swapG]
theorem swap_row {g : Grid} {i k : Nat} (hi : i < g.length) (hk : k < g.length) (r : Nat) : (swapG g i k).getD r [] = if r = k then g.getD i [] else if r = i then g.getD k [] else g.getD r [] := by
  unfold swapG
  simp only [List.getD_eq_getElem?_getD, List.getElem?_set, List.length_set]
  by_cases h1 : r = k
  · subst h1; simp [hk]
  · by_cases h2 : r = i
    · subst h2; simp [hi, h1, Ne.symm h1]
    · simp [h1, h2, Ne.symm h1, Ne.symm h2]
theorem gat_swap {g : Grid} {i k : Nat} (hi : i < g.length) (hk : k < g.length) (hne : i ≠ k) : gat (swapG g i k) = Det.swp (gat g) i k := by
  funext r c
  unfold gat Det.swp
  rw [swap_row hi hk]
  by_cases h1 : r = k
  · subst h1; simp [Ne.symm hne]
  · by_cases h2 : r = i
    · subst h2; simp [h1]
    · simp [h1, h2]
theorem det_swap {g : Grid} {i k : Nat} (hi : i < g.length) (hk : k < g.length) (hne : i ≠ k) : Det.detE (swapG g i k).length (gat (swapG g i k)) = - Det.detE g.length (gat g) := by
  rw [swap_len, gat_swap hi hk hne]; exact Det.detE_swap _ hi hk hne
theorem swap_rowlen {g : Grid} (hr : Rct g (cols g)) {i k : Nat} (hi : i < g.length) (hk : k < g.length) {r : Nat} (h : r < g.length) : ((swapG g i k).getD r []).length = cols g := by
  rw [swap_row hi hk]
  split
  · exact hr i hi
  · split
    · exact hr k hk
    · exact hr r h
theorem swap_cols {g : Grid} (hr : Rct g (cols g)) {i k : Nat} (hi : i < g.length) (hk : k < g.length) : cols (swapG g i k) = cols g := swap_rowlen hr hi hk (show 0 < g.length by omega)
theorem swap_fits {g : Grid} {i k : Nat} (h : fitsE g = 0) (hi : i < g.length) (hk : k < g.length) : fitsE (swapG g i k) = 0 := by
  obtain ⟨⟨h1, h2, h3, h4⟩, hr⟩ := fits_yes2 h
  unfold fitsE
  rw [swap_len, swap_cols hr hi hk, if_neg (by omega), if_neg (by omega), if_pos fun r hr' => swap_rowlen hr hi hk hr']
theorem swap_bd {g : Grid} {K i k : Nat} (h : BdM K g) (hi : i < g.length) (hk : k < g.length) (hne : i ≠ k) : BdM K (swapG g i k) := fun r c => by
  rw [gat_swap hi hk hne]
  unfold Det.swp
  split
  · exact h k c
  · split
    · exact h i c
    · exact h r c
theorem OwnL.place {α : Type} {T : TypeId} {Pr : World → Value → α → Prop} {w0 wr : World} {v : Value} {g : List α} (h : OwnL T Pr w0 wr v g) (hl : 0 < g.length) :
    ∃ b cap, v = .slice (some ⟨b, 0, none⟩) g.length cap ∧ w0.heap.size ≤ b ∧ b < wr.heap.size ∧ ∀ j, wr.frozen? ⟨b, j, none⟩ = false := by
  obtain ⟨xs, ⟨⟨hl', h1⟩, _⟩, h2⟩ := h
  rcases h1 with ⟨rfl, h0⟩ | ⟨b, cap, cur, rfl, hg, hh, hc, hm, hs, ht⟩
  · omega
  · exact ⟨b, cap, rfl, hg, (Array.getElem?_eq_some_iff.1 hh).1, fun j => by simp [World.frozen?, hh]⟩
theorem isL_swap {w : World} {b off c : Nat} {g : Grid} {i k : Nat} {ui uk : Value} (h : IsL 40 (PRow 0) 0 w (.slice (some ⟨b, off, none⟩) g.length c) g) (hi : i < g.length) (hk : k < g.length) (hne : i ≠ k)
    (hui : w.cell? ⟨b, off + i, none⟩ = some ui) (huk : w.cell? ⟨b, off + k, none⟩ = some uk) :
    IsL 40 (PRow 0) 0 ((w.setCell ⟨b, off + i, none⟩ uk).setCell ⟨b, off + k, none⟩ ui) (.slice (some ⟨b, off, none⟩) g.length c) (swapG g i k) := by
  obtain ⟨a', c', e, h1, h2, h3⟩ := h
  cases e
  rcases h3 with h3 | ⟨b', off', e', hb, ht, hx⟩
  · subst h3; simp at hi
  cases e'
  have key : Kp (fun t => t ≠ 40) w ((w.setCell ⟨b, off + i, none⟩ uk).setCell ⟨b, off + k, none⟩ ui) :=
    ((Kp.refl _ _).set (p := ⟨b, off + i, none⟩) (fun t ht' => by rw [ht] at ht'; cases ht'; exact fun h => h rfl) _).set (p := ⟨b, off + k, none⟩) (fun t ht' => by rw [typ_set, ht] at ht'; cases ht'; exact fun h => h rfl) _
  have pk : ∀ {u : Value} {x : List Int}, PRow 0 w u x → PRow 0 ((w.setCell ⟨b, off + i, none⟩ uk).setCell ⟨b, off + k, none⟩ ui) u x := fun hp => IsRow.kp (S := fun t => t ≠ 40) lims_int hp key (by decide) (by decide)
  refine ⟨_, c, by rw [swap_len], by rw [swap_len]; exact h1, h2, .inr ⟨b, off, rfl, hb, by rw [typ_set, typ_set]; exact ht, fun r hr => ?_⟩⟩
  have hr' : r < g.length := by rw [swap_len] at hr; exact hr
  have e0 : (swapG g i k)[r] = (swapG g i k).getD r [] := by simp [hr]
  rw [e0, swap_row hi hk]
  have gd : ∀ {q : Nat} (hq : q < g.length), g[q] = g.getD q [] := fun hq => by simp [hq]
  by_cases hk1 : r = k
  · subst hk1
    obtain ⟨u, hu, hp⟩ := hx i hi
    rw [hui] at hu; cases hu
    rw [if_pos rfl, ← gd hi]
    exact ⟨ui, cell_here (v := uk) (cell_far huk (fun e => hne (by have := congrArg Addr.off e; simp at this; omega)) _) _, pk hp⟩
  · rw [if_neg hk1]
    by_cases hi1 : r = i
    · subst hi1
      obtain ⟨u, hu, hp⟩ := hx k hk
      rw [huk] at hu; cases hu
      rw [if_pos rfl, ← gd hk]
      exact ⟨uk, cell_far (cell_here hui _) (fun e => hne (by have := congrArg Addr.off e; simp at this; omega)) _, pk hp⟩
    · obtain ⟨u, hu, hp⟩ := hx r hr'
      rw [if_neg hi1, ← gd hr']
      exact ⟨u, cell_far (cell_far hu (fun e => hi1 (by have := congrArg Addr.off e; simp at this; omega)) _) (fun e => hk1 (by have := congrArg Addr.off e; simp at this; omega)) _, pk hp⟩
theorem Mt.det {K : Nat} {g : Grid} {v : Value} {w : World} (h : Mt K g v w) (hs : g.length = cols g) (hK1 : 1 ≤ K) (hK : kb K 16 ≤ 4294967296) :
    Calls Tryd.prog 11 #[v] w fun e w' => (∃ nb a l c, e = .returned (.tuple #[.agg #[.bool nb, .slice a l c], .int .i64 0]) ∧ IsInt w' (.agg #[.bool nb, .slice a l c]) (Det.detE g.length (gat g))) ∧ Below w.heap.size w w' := by
  have s := h.sz
  refine (detM_c v g K w h.m h.rc (by omega) hK1 h.bd (Nat.le_trans (kb_mono K s.2.2.1) hK)).mono ?_
  rintro e w' ⟨ho, hb⟩
  refine ⟨?_, hb⟩
  have hsq : sqB g = true := by unfold sqB; simp; exact ⟨s.1, hs⟩
  rcases ho with ⟨-, u, rfl, hu⟩ | ⟨h2, -⟩
  · have hu2 := hu
    obtain ⟨nb, a, c, l, rfl, -⟩ := hu
    exact ⟨nb, a, l.length, c, rfl, hu2⟩
  · rw [hsq] at h2; cases h2
theorem Mt.rank {K : Nat} {g : Grid} {v : Value} {w : World} (h : Mt K g v w) (hK1 : 1 ≤ K) (hK : kb K 16 ≤ 4294967296) :
    Calls Tryd.prog 15 #[v] w fun e w' => e = .returned (.int .i64 ((pivL g).length : Nat)) ∧ Below w.heap.size w w' := by
  have s := h.sz
  exact rank_c v g K w h.m h.rc (by omega) (by omega) (fun _ => s.2.1) hK1 h.bd (Nat.le_trans (kb_mono K s.2.2.2) hK) (Nat.le_trans (piv_le g) (by omega))
theorem Mt.ofNew {g : Grid} {v : Value} {w : World} {n : Nat} (h : IsL 40 (PRow 0) 0 w v g) (hf : fitsE g = 0) (hb : BdM 64 g) (hn : g.length = n) :
    Calls Tryd.prog 17 #[v] w fun e w' => (∃ a c, e = .returned (.tuple #[.agg #[.slice a n c], .int .i64 0]) ∧ Mt 64 g (.agg #[.slice a n c]) w') ∧ Below w.heap.size w w' := by
  obtain ⟨hs, hr⟩ := fits_yes2 hf
  refine (newM_c v g w h (fun i hi => by rw [hr i hi]; omega)).mono ?_
  rintro e w' ⟨ho, hB⟩
  refine ⟨?_, hB⟩
  rcases ho with ⟨-, u, rfl, hu⟩ | ⟨h2, -⟩
  · have hu2 := hu.rebase (Nat.zero_le _)
    obtain ⟨a, c, rfl⟩ := hu2.lit
    rw [hn] at hu2 ⊢
    exact ⟨a, c, rfl, hu2, hr, hs, hb⟩
  · exact absurd hf h2
theorem fits_of {g : Grid} (s : 0 < g.length ∧ 0 < cols g ∧ g.length ≤ 16 ∧ cols g ≤ 16) (r : Rct g (cols g)) : fitsE g = 0 := by
  unfold fitsE
  rw [if_neg (by omega), if_neg (by omega), if_pos (fun i hi => r i hi)]
end Go.Proofs.YthaohpfbengabaaDoor

