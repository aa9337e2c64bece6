/- Texts of this seat, laid together (what the earlier ones leave out): MwS. Each opens with its own remark, which says what it proves, and under which conditions. -/
import Derived.Test.YthaohpfbengabaaDoorR01
import Derived.Test.YthaohpfbengabaaDoorR02
import Derived.Test.YthaohpfbengabaaDoorR03
import Derived.Test.YthaohpfbengabaaDoorR04
import Derived.Test.YthaohpfbengabaaDoorR05
import Derived.Test.YthaohpfbengabaaDoorR06
import Derived.Test.YthaohpfbengabaaDoorR07
import Derived.Test.YthaohpfbengabaaDoorR08
import Derived.Test.YthaohpfbengabaaDoorR09
import Derived.Test.YthaohpfbengabaaDoorR10
import Derived.Test.YthaohpfbengabaaDoorR11
import Derived.Test.YthaohpfbengabaaDoorR12
import Derived.Test.YthaohpfbengabaaDoorR13
import Derived.Test.YthaohpfbengabaaDoorR14
import Derived.Test.YthaohpfbengabaaDoorR16
import Derived.Test.YthaohpfbengabaaDoorU01
import Derived.Test.YthaohpfbengabaaDoorU02
import Derived.WalkKit
import Derived.ProofKit
import Derived.OpenShut
import Derived.Deep.QuietTactic
import Derived.BigQuiet
import Derived.Outline
import Derived.Lib.Hide
import Derived.WalkSmall
import Derived.WalkSpells
import Derived.WalkLawsBesides
import Derived.Deep.RegionWith
import Derived.Deep.RegionHeld3
import Derived.Laws.CopyOwn
import Derived.Shelf.Small.Bits
import Derived.Laws.AppendOwn
import Derived.Deep.AppendLies
import Derived.OneCell
import Derived.Laws.BitsAllLaws
import Derived.Shelf.Spec.TrailingZeros
import Derived.Shelf.Strings.Builder1
import Derived.Shelf.Strings.Trim
import Derived.Deep.Cut
import Derived.Deep.DeepCutAuto
import Derived.ArgAppend
import Derived.Deep.DeepFit
import Derived.Shelf.Abstract
import Derived.Laws.EntriesVeiled
import Derived.RegionTactic
import Derived.ChangeAlike
import Derived.Laws.OwnMore
import Derived.Deep.Onto
import Derived.Deep.DrawnRows
import Derived.Deep.RegionLaw
import Derived.Deep.LoopGhost
import Derived.RangeFuncNested
import Derived.RangeFuncBound
import Derived.RangeFuncCalls
import Derived.RangeFuncLeaves
import Derived.Shelf.RegionOpen
import Derived.OwnWalkIn
import Derived.TacticsInMore
import Derived.LoopNIn
import Derived.LoopIn
import Derived.Laws.CopyRow
import Derived.Laws.Rows
import Derived.Laws.Tables
import Derived.StillTail
import Derived.Deep.Quiet
import Derived.StillTailTactics
import Derived.Lib.AppendZeros
import Derived.Laws.IdiomStrings
import Derived.Laws.BytesArg
import Derived.Laws.RangeString
import Derived.Lib.OthersKept
import Derived.Maps.AppendAt
import Derived.Shelf.Strings.OnBuilder
import Derived.Lib.SmallJoins
import Derived.Deep.Slices
import Derived.Deep.Matrix
import Derived.Deep.Fields
import Derived.ChangeSame
import Derived.DataShut
import Derived.SizedLaws
set_option linter.unusedVariables false
set_option linter.unusedSimpArgs false
/- matrices that New makes: what is done to them, in one form. -/
namespace Go.Proofs.YthaohpfbengabaaDoor
open Num
open Go.ChangeShapes Go.WideShapes Go.ChangeAt Go.RowKit
theorem fits_yes2 {g : Grid} (h : fitsE g = 0) : (0 < g.length ∧ 0 < cols g ∧ g.length ≤ 16 ∧ cols g ≤ 16) ∧ Rct g (cols g) := by
  unfold fitsE at h
  split at h
  · cases h
  · split at h
    · cases h
    · split at h
      · refine ⟨⟨by omega, by omega, by omega, by omega⟩, fun i hi => ?_⟩
        rename_i h3
        exact h3 i hi
      · cases h
theorem i64_bd2 {w : World} {v : Value} {l : List Int} (h : RowI w v l) : ∀ j, Bd 64 (l.getD j 0) := fun j => by
  obtain ⟨a, c, -, h⟩ := h
  by_cases hj : j < l.length
  · obtain ⟨b, off, -, -, h5⟩ := h j hj
    unfold I64 at h5; unfold Bd; omega
  · rw [List.getD_eq_getElem?_getD, List.getElem?_eq_none (by omega)]; exact bd_zero
theorem i64_bdM2 {w : World} {v : Value} {g : Grid} (h : GridI w v g) : BdM 64 g := fun i j => by
  obtain ⟨a, c, -, h⟩ := h
  by_cases hi : i < g.length
  · obtain ⟨b, off, u, -, -, hr⟩ := h i hi
    exact i64_bd2 hr j
  · unfold gat
    rw [List.getD_eq_getElem?_getD (l := g), List.getElem?_eq_none (by omega)]
    simp [bd_zero]
structure Mt (k : Nat) (g : Grid) (v : Value) (w : World) : Prop where
  m : IsM 0 w v g
  rc : Rct g (cols g)
  sz : 0 < g.length ∧ 0 < cols g ∧ g.length ≤ 16 ∧ cols g ≤ 16
  bd : BdM k g
theorem Mt.keep {k : Nat} {g : Grid} {v : Value} {w w' : World} (h : Mt k g v w) (b : Below w.heap.size w w') : Mt k g v w' := ⟨h.m.keep b, h.rc, h.sz, h.bd⟩
theorem Mt.mono {k m : Nat} {g : Grid} {v : Value} {w : World} (h : Mt k g v w) (hk : k ≤ m) : Mt m g v w := ⟨h.m, h.rc, h.sz, h.bd.mono hk⟩
theorem Mt.al {k : Nat} {g : Grid} {v : Value} {w : World} (h : Mt k g v w) (o : Obj) : Mt k g v (w.alloc o) := h.keep (bal (Below.refl _ _) _)
theorem Mt.dr {k : Nat} {g : Grid} {v : Value} {w : World} (h : Mt k g v w) : Mt k g v w.drew := h.keep (Below.refl _ _).drew
theorem Mt.setM {k : Nat} {g : Grid} {v : Value} {w : World} (h : Mt k g v w) {p : Addr} (ht : typOf w p.block = some 27) (u : Value) : Mt k g v (w.setCell p u) := ⟨h.m.setM ht u, h.rc, h.sz, h.bd⟩
theorem Mt.times {k m n : Nat} {g h : Grid} {v u : Value} {w : World} (h1 : Mt k g v w) (h2 : Mt m h u w) (e : cols g = h.length) (hk : k + m + 16 ≤ 17179869184) (hn : g.length = n) :
    Calls Tryd.prog 19 #[v, u] w fun e w' => (∃ a c, e = .returned (.tuple #[.agg #[.slice a n c], .int .i64 0]) ∧ Mt (k + m + 16) (timesG g h) (.agg #[.slice a n c]) w') ∧ Below w.heap.size w w' := by
  have s1 := h1.sz
  have s2 := h2.sz
  refine (timesM_c v u g h k m w h1.m h2.m h1.rc h2.rc h1.bd h2.bd (by omega) (by omega) (by omega) (by omega)).mono ?_
  rintro ee w' ⟨ho, hb⟩
  refine ⟨?_, hb⟩
  rcases ho with ⟨-, x, rfl, hx⟩ | ⟨no, -⟩
  · have hx := hx.rebase (Nat.zero_le _)
    obtain ⟨a, c, rfl⟩ := hx.lit
    rw [times_len, hn] at hx ⊢
    exact ⟨a, c, rfl, hx, by rw [times_cols (by omega)]; exact times_rct g h, ⟨by rw [times_len]; omega, by rw [times_cols (by omega)]; omega, by rw [times_len]; omega, by rw [times_cols (by omega)]; omega⟩, (show BdM (k + m + cols g) (timesG g h) from tab_bd fun i j _ _ => isum_bd (fun t => (h1.bd i t).mul (h2.bd t j)) _).mono (by omega)⟩
  · exact absurd ⟨e, by omega⟩ no
theorem Mt.plus {k n : Nat} {g h : Grid} {v u : Value} {w : World} (h1 : Mt k g v w) (h2 : Mt k h u w) (e : g.length = h.length) (e2 : cols g = cols h) (hk : k ≤ 17179869184) (hn : g.length = n) :
    Calls Tryd.prog 25 #[v, u] w fun e w' => (∃ a c, e = .returned (.tuple #[.agg #[.slice a n c], .int .i64 0]) ∧ Mt (k + 1) (plusG g h) (.agg #[.slice a n c]) w') ∧ Below w.heap.size w w' := by
  have s1 := h1.sz
  refine (plusM_c v u g h k w h1.m h2.m h1.rc h2.rc h1.bd h2.bd hk (by omega) (by omega)).mono ?_
  rintro ee w' ⟨ho, hb⟩
  refine ⟨?_, hb⟩
  rcases ho with ⟨-, x, rfl, hx⟩ | ⟨no, -⟩
  · have hx := hx.rebase (Nat.zero_le _)
    obtain ⟨a, c, rfl⟩ := hx.lit
    rw [plus_len, hn] at hx ⊢
    exact ⟨a, c, rfl, hx, by rw [plus_cols (by omega)]; exact tab_rect _ _ _, ⟨by rw [plus_len]; omega, by rw [plus_cols (by omega)]; omega, by rw [plus_len]; omega, by rw [plus_cols (by omega)]; omega⟩, tab_bd fun i j _ _ => (h1.bd i j).add (h2.bd i j)⟩
  · exact absurd ⟨e, e2⟩ no
theorem Mt.turn {k n : Nat} {g : Grid} {v : Value} {w : World} (h1 : Mt k g v w) (hn : cols g = n) :
    Calls Tryd.prog 12 #[v] w fun e w' => (∃ a c, e = .returned (.agg #[.slice a n c]) ∧ Mt k (turnG g) (.agg #[.slice a n c]) w') ∧ Below w.heap.size w w' := by
  have s1 := h1.sz
  refine (turnM_c v g w h1.m h1.rc (by omega) (by omega)).mono ?_
  rintro ee w' ⟨⟨x, rfl, hx⟩, hb⟩
  refine ⟨?_, hb⟩
  have hx := hx.rebase (Nat.zero_le _)
  obtain ⟨a, c, rfl⟩ := hx.lit
  have e : cols (turnG g) = g.length := turn_cols (by omega)
  rw [turn_len, hn] at hx ⊢
  exact ⟨a, c, rfl, hx, by rw [e]; exact tab_rect _ _ _, ⟨by rw [turn_len]; omega, by rw [e]; omega, by rw [turn_len]; omega, by rw [e]; omega⟩, tab_bd fun i j _ _ => h1.bd j i⟩
theorem Mt.same {k m : Nat} {g h : Grid} {v u : Value} {w : World} (h1 : Mt k g v w) (h2 : Mt m h u w) (e : g = h) :
    Calls Tryd.prog 24 #[v, u] w fun e w' => e = .returned (.bool true) ∧ Below w.heap.size w w' := by
  have s1 := h1.sz
  have s2 := h2.sz
  subst e
  have h := sameM_c v u g g w h1.m h2.m (by omega) (fun i hi => by rw [h1.rc i hi]; omega) (fun i hi => by rw [h2.rc i hi]; omega)
  rw [show decide (g = g) = true by simp] at h
  exact h
theorem Mt.colsC {k n : Nat} {g : Grid} {v : Value} {w : World} (h1 : Mt k g v w) (hn : cols g = n) :
    Calls Tryd.prog 10 #[v] w fun e w' => e = .returned (.int .i64 (n : Nat)) ∧ Below w.heap.size w w' := by
  obtain ⟨a, c, rfl, hl⟩ := h1.m
  rw [← hn]
  exact colsM_c a c g w hl
theorem colsI {n : Nat} {g : Grid} {v : Value} {w : World} (h1 : IsM 0 w v g) (hn : cols g = n) :
    Calls Tryd.prog 10 #[v] w fun e w' => e = .returned (.int .i64 (n : Nat)) ∧ Below w.heap.size w w' := by
  obtain ⟨a, c, rfl, hl⟩ := h1
  rw [← hn]
  exact colsM_c a c g w hl
theorem cmpI_self (x : Int) : cmpI x x = 0 := by unfold cmpI; rw [if_neg (by omega), if_pos rfl]
theorem cmp_same {vx vy : Value} {x : Int} {w : World} (hx : IsInt w vx x) (hy : IsInt w vy x) : Calls Tryd.prog 13 #[vx, vy] w fun e w' => e = .returned (.int .i64 0) ∧ Below w.heap.size w w' := by
  have h := cmp_c vx vy x x w hx hy
  rw [cmpI_self] at h
  exact h
theorem app_bd2 {g : Grid} {l : List Int} {k m : Nat} (rg : Rct g (cols g)) (hl : l.length = cols g) (h1 : BdM k g) (h2 : ∀ j, Bd m (l.getD j 0)) : ∀ j, Bd (k + m + cols g) ((applyG g l).getD j 0) := fun j => by
  by_cases hj : j < g.length
  · rw [app_at rg hl hj]
    exact isum_bd (fun t => (h1 j t).mul (h2 t)) _
  · rw [List.getD_eq_getElem?_getD, List.getElem?_eq_none (by rw [app_len]; omega)]; exact bd_zero
theorem Mt.apply {k m n : Nat} {g : Grid} {l : List Int} {v u : Value} {w : World} (h1 : Mt k g v w) (hu : PRow 0 w u l) (hl : l.length = cols g) (bl : ∀ j, Bd m (l.getD j 0)) (hk : k + m + 16 ≤ 17179869184) (hn : g.length = n) :
    Calls Tryd.prog 28 #[v, u] w fun e w' => (∃ a c, e = .returned (.tuple #[.slice a n c, .int .i64 0]) ∧ PRow 0 w' (.slice a n c) (applyG g l) ∧ (applyG g l).length = n ∧ ∀ j, Bd (k + m + 16) ((applyG g l).getD j 0)) ∧ Below w.heap.size w w' := by
  have s1 := h1.sz
  refine (applyM_c v u g l k m w h1.m hu h1.rc (by omega) (by omega) (by omega) h1.bd bl (by omega)).mono ?_
  rintro ee w' ⟨ho, hb⟩
  refine ⟨?_, hb⟩
  rcases ho with ⟨-, -, x, rfl, hx⟩ | ⟨no, -⟩
  · obtain ⟨a, c, rfl⟩ := hx.ex
    have hx2 : PRow 0 w' _ (applyG g l) := hx.row.rebase (Nat.zero_le _)
    rw [app_len, hn] at hx2 ⊢
    exact ⟨a, c, rfl, hx2, rfl, fun j => (app_bd2 h1.rc hl h1.bd bl j).mono (by omega)⟩
  · exact absurd ⟨by omega, hl⟩ no
theorem made_any {g : Grid} {w w' : World} {e : Ending} (h : MadePost g w e w') (hb : BdM 64 g) :
    (∃ a n c ok g', e = .returned (.tuple #[.agg #[.slice a n c], .bool ok]) ∧ IsM 0 w' (.agg #[.slice a n c]) g' ∧ n = g'.length ∧ (ok = true → g' = g ∧ Mt 64 g (.agg #[.slice a n c]) w')) ∧ Below w.heap.size w w' := by
  obtain ⟨h, hB⟩ := h
  refine ⟨?_, hB⟩
  rcases h with ⟨h64, hf, v, rfl, hv⟩ | ⟨-, rfl⟩
  · obtain ⟨a, c, rfl⟩ := hv.lit
    obtain ⟨hs, hr⟩ := fits_yes2 hf
    exact ⟨a, _, c, true, g, rfl, hv, rfl, fun _ => ⟨rfl, hv, hr, hs, hb⟩⟩
  · exact ⟨none, 0, 0, false, [], rfl, IsM.nil _ _, rfl, fun h => by cases h⟩
end Go.Proofs.YthaohpfbengabaaDoor

