/- Texts of this seat, laid together (what the earlier ones leave out): MwH, MwI. Each opens with its own remark, which says what it proves, and under which conditions. -/
import Derived.Test.YthaohpfbengabaaDoorR01
import Derived.Test.YthaohpfbengabaaDoorR02
import Derived.Test.YthaohpfbengabaaDoorR03
import Derived.Test.YthaohpfbengabaaDoorR04
import Derived.Test.YthaohpfbengabaaDoorR05
import Derived.Test.YthaohpfbengabaaDoorR06
import Derived.Test.YthaohpfbengabaaDoorR07
import Derived.Test.YthaohpfbengabaaDoorR08
import Derived.Test.YthaohpfbengabaaDoorR09
import Derived.Test.YthaohpfbengabaaDoorR10
import Derived.Test.YthaohpfbengabaaDoorR11
import Derived.Test.YthaohpfbengabaaDoorR12
import Derived.Test.YthaohpfbengabaaDoorR13
import Derived.Test.YthaohpfbengabaaDoorR14
import Derived.Test.YthaohpfbengabaaDoorR16
import Derived.Test.YthaohpfbengabaaDoorU01
import Derived.WalkKit
import Derived.ProofKit
import Derived.OpenShut
import Derived.Deep.QuietTactic
import Derived.BigQuiet
import Derived.Outline
import Derived.Lib.Hide
import Derived.WalkSmall
import Derived.WalkSpells
import Derived.WalkLawsBesides
import Derived.Deep.RegionWith
import Derived.Deep.RegionHeld3
import Derived.Laws.CopyOwn
import Derived.Shelf.Small.Bits
import Derived.Laws.AppendOwn
import Derived.Deep.AppendLies
import Derived.OneCell
import Derived.Laws.BitsAllLaws
import Derived.Shelf.Spec.TrailingZeros
import Derived.Shelf.Strings.Builder1
import Derived.Shelf.Strings.Trim
import Derived.Deep.Cut
import Derived.Deep.DeepCutAuto
import Derived.ArgAppend
import Derived.Deep.DeepFit
import Derived.Shelf.Abstract
import Derived.Laws.EntriesVeiled
import Derived.RegionTactic
import Derived.ChangeAlike
import Derived.Laws.OwnMore
import Derived.Deep.Onto
import Derived.Deep.DrawnRows
import Derived.Deep.RegionLaw
import Derived.Deep.LoopGhost
import Derived.RangeFuncNested
import Derived.RangeFuncBound
import Derived.RangeFuncCalls
import Derived.RangeFuncLeaves
import Derived.Shelf.RegionOpen
import Derived.OwnWalkIn
import Derived.TacticsInMore
import Derived.LoopNIn
import Derived.LoopIn
import Derived.Laws.CopyRow
import Derived.Laws.Rows
import Derived.Laws.Tables
import Derived.StillTail
import Derived.Deep.Quiet
import Derived.StillTailTactics
import Derived.Lib.AppendZeros
import Derived.Laws.IdiomStrings
import Derived.Laws.BytesArg
import Derived.Laws.RangeString
import Derived.Lib.OthersKept
import Derived.Maps.AppendAt
import Derived.Shelf.Strings.OnBuilder
import Derived.Lib.SmallJoins
import Derived.Deep.Slices
import Derived.Deep.Matrix
import Derived.Deep.Fields
import Derived.ChangeSame
import Derived.DataShut
import Derived.SizedLaws
set_option linter.unusedVariables false
set_option linter.unusedSimpArgs false
/- row: Cmp, Same; matrix: Same. -/
namespace Go.Proofs.YthaohpfbengabaaDoor
open Num
open Go.ChangeShapes Go.WideShapes Go.ChangeAt Go.RowKit
attribute [local go_sem ↓] Go.wp_at_zero Go.wp_at_succ
theorem list_ext {α : Type} {a b : List α} {d : α} (h : a.length = b.length) (he : ∀ t, t < a.length → a.getD t d = b.getD t d) : a = b := by
  apply List.ext_getElem h
  intro i h1 h2
  have := he i h1
  simpa [h1, h2] using this
def CmpOk (c : Int) (a b : List Int) : Prop := c = 0 ↔ a = b
theorem cmpI_zero {x y : Int} : cmpI x y = 0 ↔ x = y := by
  unfold cmpI
  split
  · constructor
    · intro h; cases h
    · intro h; omega
  · split
    · simp [*]
    · constructor
      · intro h; cases h
      · intro h; contradiction
set_option maxRecDepth 100000 in
set_option maxHeartbeats 8000000 in
theorem rowCmp_c (va vb : Value) (la lb : List Int) (w : World) (ha : PRow 0 w va la) (hb : PRow 0 w vb lb) (hla : la.length ≤ 1099511627775) (hlb : lb.length ≤ 1099511627775) :
    Calls Tryd.prog 76 #[va, vb] w fun e w' => (∃ c : Int, e = .returned (.int .i64 c) ∧ CmpOk c la lb) ∧ Below w.heap.size w w' := by
  have HA := Lib.hid ha
  have HBB := Lib.hid hb
  obtain ⟨aa, ca, rfl, -⟩ := ha
  obtain ⟨ab, cb, rfl, -⟩ := hb
  have hB := Below.refl w.heap.size w
  rcases Nat.lt_trichotomy la.length lb.length with hl | hl | hl
  · have hI : (la.length : Int) < (lb.length : Int) := by omega
    have HNE := Lib.hid (show CmpOk (-1) la lb from Iff.intro (fun h => absurd h (by decide)) (fun h => absurd hl (by rw [h]; exact Nat.lt_irrefl _)))
    go_enter Tryd.func76, Tryd.ntmps76
    go_wp2
    go_ret
    exact ⟨⟨_, rfl, HNE.out⟩, by repeat (first | exact Below.refl _ _ | exact hB | refine Below.drew ?_ | refine below_drewN ?_ _ | refine bset ?_ (by simp <;> omega) _ | refine bal ?_ _)⟩
  · have HLE := Lib.hid hl
    obtain ⟨n, hn⟩ : ∃ n, la.length = n := ⟨_, rfl⟩
    have hn2 : lb.length = n := by rw [← hl]; exact hn
    have HN := Lib.hid (And.intro hn hn2)
    rw [hn] at hla ⊢
    rw [hn2]
    clear hl hn hn2 hlb
    have hI1 : ¬ (n : Int) < (n : Int) := by omega
    go_enter Tryd.func76, Tryd.ntmps76
    go_wp2
    go_loopw [22] (fun x wr => ∃ j : Nat, j ≤ n ∧ x = .int .i64 j ∧ Below w.heap.size w wr ∧ Hid (∀ t, t < j → la.getD t 0 = lb.getD t 0)) (fun x _ => n - (intOf x).toNat)
    case atStart => exact ⟨0, Nat.zero_le _, rfl, hB, Lib.hid (fun t ht => by omega)⟩
    case round =>
      obtain ⟨j, hj, rfl, hBr, hE⟩ := hrel
      by_cases hlt : j < n
      · have hltI : (j : Int) < (n : Int) := by omega
        obtain ⟨a', c', he, -, vr⟩ := (HA.out.keep lims_int hBr).view
        obtain ⟨rfl, -, rfl⟩ := Value.slice.inj he
        obtain ⟨b', d', he2, -, vs⟩ := (HBB.out.keep lims_int hBr).view
        obtain ⟨rfl, -, rfl⟩ := Value.slice.inj he2
        obtain ⟨rb, ro, n3, a3, l3, c3, rfl, r0, r1, hi⟩ := vr j (by rw [HN.out.1]; exact hlt)
        obtain ⟨sb, so, n4, a4, l4, c4, rfl, s0, s1, hi2⟩ := vs j (by rw [HN.out.2]; exact hlt)
        have HI := Lib.hid (And.intro hi hi2)
        have kc := fun W (q : Below wr.heap.size wr W) => cmp_c _ _ (la.getD j 0) (lb.getD j 0) W (HI.out.1.keep q) (HI.out.2.keep q)
        obtain ⟨c, hc⟩ : ∃ c, cmpI (la.getD j 0) (lb.getD j 0) = c := ⟨_, rfl⟩
        have HC := Lib.hid hc
        rw [hc] at kc
        have KC := Lib.hid kc
        have zr := cell_lt r0
        have zs := cell_lt s0
        clear hc kc hi hi2 vr vs he he2
        have hBw := Below.refl wr.heap.size wr
        go_wp2
        refine wp_name fun w3 hW3 => ?_
        have hb3 : Below wr.heap.size wr w3 := by rw [hW3]; repeat (first | exact Below.refl _ _ | exact hBw | refine Below.drew ?_ | refine below_drewN ?_ _ | refine bset ?_ (by simp <;> omega) _ | refine bal ?_ _)
        obtain ⟨x0, x1⟩ : w3.cell? ⟨wr.heap.size, 0, none⟩ = some (.bool n3) ∧ w3.cell? ⟨wr.heap.size, 1, none⟩ = some (.slice a3 l3 c3) := by rw [hW3]; simp [go_sem]
        replace s0 := bkeep hb3 s0
        replace s1 := bkeep hb3 s1
        clear hW3 r0 r1
        have zx := cell_lt x0
        replace zs := cell_lt s0
        have HS := Lib.hid (show ∀ W, Below w3.heap.size w3 W → W.cell? ⟨wr.heap.size, 0, none⟩ = some (.bool n3) ∧ W.cell? ⟨wr.heap.size, 1, none⟩ = some (.slice a3 l3 c3) ∧ W.cell? ⟨sb, so + j * 2, none⟩ = some (.bool n4) ∧ W.cell? ⟨sb, so + j * 2 + 1, none⟩ = some (.slice a4 l4 c4) from fun W q => ⟨bkeep q x0, bkeep q x1, bkeep q s0, bkeep q s1⟩)
        have hBx := Below.refl w3.heap.size w3
        go_region_held3 (fun W => W.cell? ⟨wr.heap.size, 0, none⟩ = some (.bool n3) ∧ W.cell? ⟨wr.heap.size, 1, none⟩ = some (.slice a3 l3 c3) ∧ W.cell? ⟨sb, so + j * 2, none⟩ = some (.bool n4) ∧ W.cell? ⟨sb, so + j * 2 + 1, none⟩ = some (.slice a4 l4 c4))
          (first | (refine HS.out _ ?_; (repeat (first | exact Below.refl _ _ | exact hBx | refine Below.drew ?_ | refine below_drewN ?_ _ | refine bset ?_ (by simp <;> omega) _ | refine bal ?_ _)); done) | fail)
          (first
          | (go_at_call 13; (with_reducible refine (KC.out _ ?_).mono ?_); (refine bthen hb3 ?_; (repeat (first | exact Below.refl _ _ | exact hBx | refine Below.drew ?_ | refine below_drewN ?_ _ | refine bset ?_ (by simp <;> omega) _ | refine bal ?_ _))); rintro e w5 ⟨rfl, hb5⟩; (have hBd : Below w3.heap.size w3 w5 := bthen belA hb5; clear hBx; have hBx := hBd; clear hBd))
          | fail)
        all_goals
          have hB5 := bthen hBr (bthen hb3 hBx)
          by_cases hc0 : c = 0
          · have hcI : (c != 0) = false := by simp [hc0]
            have HE2 := Lib.hid (show ∀ t, t < j + 1 → la.getD t 0 = lb.getD t 0 from fun t ht => by
              by_cases e : t = j
              · subst e; exact cmpI_zero.1 (by rw [HC.out]; exact hc0)
              · exact hE.out t (by omega))
            clear hc0 x0 x1 s0 s1 HS
            go_wp2
            exact ⟨⟨j + 1, hlt, by go_num, hB5, HE2⟩, meas hlt (by go_num) rfl⟩
          · have hcI : (c != 0) = true := by simp [hc0]
            have HNE := Lib.hid (show CmpOk c la lb from ⟨fun h => absurd h hc0, fun h => by rw [← HC.out, h]; exact cmpI_zero.2 rfl⟩)
            clear hc0 x0 x1 s0 s1 HS
            go_wp2
            go_ret
            exact ⟨⟨_, rfl, HNE.out⟩, hB5⟩
      · obtain rfl : j = n := by omega
        have HEQ := Lib.hid (show CmpOk 0 la lb from ⟨fun _ => list_ext (d := 0) HLE.out (fun t ht => hE.out t (by rw [← HN.out.1]; exact ht)), fun _ => rfl⟩)
        go_wp2
        go_ret
        exact ⟨⟨_, rfl, HEQ.out⟩, hBr⟩
  · have hI : (lb.length : Int) < (la.length : Int) := by omega
    have hI2 : ¬ (la.length : Int) < (lb.length : Int) := by omega
    have HNE := Lib.hid (show CmpOk 1 la lb from Iff.intro (fun h => absurd h (by decide)) (fun h => absurd hl (by rw [h]; exact Nat.lt_irrefl _)))
    go_enter Tryd.func76, Tryd.ntmps76
    go_wp2
    go_ret
    exact ⟨⟨_, rfl, HNE.out⟩, by repeat (first | exact Below.refl _ _ | exact hB | refine Below.drew ?_ | refine below_drewN ?_ _ | refine bset ?_ (by simp <;> omega) _ | refine bal ?_ _)⟩
set_option maxRecDepth 100000 in
set_option maxHeartbeats 2000000 in
theorem rowSame_c (va vb : Value) (la lb : List Int) (w : World) (ha : PRow 0 w va la) (hb : PRow 0 w vb lb) (hla : la.length ≤ 1099511627775) (hlb : lb.length ≤ 1099511627775) :
    Calls Tryd.prog 50 #[va, vb] w fun e w' => e = .returned (.bool (decide (la = lb))) ∧ Below w.heap.size w w' := by
  have kc := Lib.hid (fun W (q : Below w.heap.size w W) => rowCmp_c va vb la lb W (ha.keep lims_int q) (hb.keep lims_int q) hla hlb)
  obtain ⟨aa, ca, rfl, -⟩ := ha
  obtain ⟨ab, cb, rfl, -⟩ := hb
  have hB := Below.refl w.heap.size w
  obtain ⟨q, hq⟩ : ∃ q, decide (la = lb) = q := ⟨_, rfl⟩
  have HQ := Lib.hid hq
  rw [hq]
  clear hq
  go_enter Tryd.func50, Tryd.ntmps50
  go_wp2_with fail
  (with_reducible refine (kc.out _ ?_).mono ?_); (repeat (first | exact Below.refl _ _ | exact hB | refine Below.drew ?_ | refine below_drewN ?_ _ | refine bset ?_ (by simp <;> omega) _ | refine bal ?_ _))
  rintro e w1 ⟨⟨c, rfl, hc⟩, hb1⟩
  have hB1 : Below w.heap.size w w1 := bthen belA hb1
  have hcq : (c == 0) = q := by
    rw [← HQ.out]
    by_cases h : c = 0
    · simp [h, hc.1 h]
    · have : ¬ la = lb := fun e => h (hc.2 e)
      simp [h, this]
  clear kc hc
  go_wp2
  go_ret
  exact ⟨rfl, hB1⟩
end Go.Proofs.YthaohpfbengabaaDoor

/- matrix: Same. -/
namespace Go.Proofs.YthaohpfbengabaaDoor
open Num
open Go.ChangeShapes Go.WideShapes Go.ChangeAt Go.RowKit
attribute [local go_sem ↓] Go.wp_at_zero Go.wp_at_succ
set_option maxRecDepth 100000 in
set_option maxHeartbeats 8000000 in
theorem eqFunc_c (va vb : Value) (g h : Grid) (w : World) (ha : IsL 40 (PRow 0) 0 w va g) (hb : IsL 40 (PRow 0) 0 w vb h) (hgl : g.length ≤ 65536) (hg : ∀ i, i < g.length → (g.getD i []).length ≤ 1099511627775) (hh : ∀ i, i < h.length → (h.getD i []).length ≤ 1099511627775) :
    Calls Tryd.prog 49 #[va, vb, .func (.func 50) #[] #[]] w fun e w' => e = .returned (.bool (decide (g = h))) ∧ Below w.heap.size w w' := by
  have HA := Lib.hid ha
  have HBB := Lib.hid hb
  have HG := Lib.hid (And.intro hg hh)
  obtain ⟨aa, ca, rfl, -⟩ : ∃ a c, va = .slice a g.length c ∧ True := by obtain ⟨a, c, e, _⟩ := ha.view; exact ⟨a, c, e, trivial⟩
  obtain ⟨ab, cb, rfl, -⟩ : ∃ a c, vb = .slice a h.length c ∧ True := by obtain ⟨a, c, e, _⟩ := hb.view; exact ⟨a, c, e, trivial⟩
  clear ha hb hg hh
  obtain ⟨q, hq⟩ : ∃ q, decide (g = h) = q := ⟨_, rfl⟩
  have HQ := Lib.hid hq
  rw [hq]
  clear hq
  have hB := Below.refl w.heap.size w
  by_cases hl : g.length = h.length
  · obtain ⟨n, hn⟩ : ∃ n, g.length = n := ⟨_, rfl⟩
    have hn2 : h.length = n := by rw [← hl]; exact hn
    have HN := Lib.hid (And.intro hn hn2)
    rw [hn] at hgl ⊢
    rw [hn2]
    clear hl hn hn2
    have hnn : ((n : Int) != (n : Int)) = false := by simp
    go_enter Tryd.func49, Tryd.ntmps49
    go_wp2
    go_loopw [17] (fun x wr => ∃ j : Nat, j ≤ n ∧ x = .int .i64 j ∧ Below w.heap.size w wr ∧ Hid (∀ t, t < j → g.getD t [] = h.getD t [])) (fun x _ => n - (intOf x).toNat)
    case atStart => exact ⟨0, Nat.zero_le _, rfl, hB, Lib.hid (fun t ht => by omega)⟩
    case round =>
      obtain ⟨j, hj, rfl, hBr, hE⟩ := hrel
      by_cases hlt : j < n
      · have hltI : (j : Int) < (n : Int) := by omega
        obtain ⟨c1, gb1, go1, ra1, rc1, e1, hu1, hp1⟩ := (HA.out.keep (prs_prow 0) hBr).row (i := j) (by rw [HN.out.1]; exact hlt)
        obtain ⟨rfl, -, rfl⟩ := Value.slice.inj e1
        obtain ⟨c2, gb2, go2, ra2, rc2, e2, hu2, hp2⟩ := (HBB.out.keep (prs_prow 0) hBr).row (i := j) (by rw [HN.out.2]; exact hlt)
        obtain ⟨rfl, -, rfl⟩ := Value.slice.inj e2
        have b1 := HG.out.1 j (by rw [HN.out.1]; exact hlt)
        have b2 := HG.out.2 j (by rw [HN.out.2]; exact hlt)
        obtain ⟨l1, hl1⟩ : ∃ l, g.getD j [] = l := ⟨_, rfl⟩
        obtain ⟨l2, hl2⟩ : ∃ l, h.getD j [] = l := ⟨_, rfl⟩
        rw [hl1] at hu1 hp1 b1
        rw [hl2] at hu2 hp2 b2
        have HL := Lib.hid (And.intro hl1 hl2)
        have KC := Lib.hid (fun W (q : Below wr.heap.size wr W) => rowSame_c (.slice ra1 l1.length rc1) (.slice ra2 l2.length rc2) l1 l2 W (hp1.keep lims_int q) (hp2.keep lims_int q) b1 b2)
        have z1 := cell_lt hu1
        have z2 := cell_lt hu2
        have hBw := Below.refl wr.heap.size wr
        clear e1 e2 hp1 hp2 b1 b2 hl1 hl2
        obtain ⟨p, hp⟩ : ∃ p, decide (l1 = l2) = p := ⟨_, rfl⟩
        have HP := Lib.hid hp
        rw [hp] at KC
        clear hp
        go_wp2_with fail
        (with_reducible refine (KC.out _ ?_).mono ?_); (repeat (first | exact Below.refl _ _ | exact hBw | refine Below.drew ?_ | refine below_drewN ?_ _ | refine bset ?_ (by simp <;> omega) _ | refine bal ?_ _))
        rintro e w5 ⟨rfl, hb5⟩
        have hB5 := bthen hBr (bthen (show Below wr.heap.size wr _ by repeat (first | exact Below.refl _ _ | exact hBw | refine Below.drew ?_ | refine below_drewN ?_ _ | refine bset ?_ (by simp <;> omega) _ | refine bal ?_ _)) hb5)
        clear KC hu1 hu2
        cases p with
        | true =>
          have HE2 := Lib.hid (show ∀ t, t < j + 1 → g.getD t [] = h.getD t [] from fun t ht => by
            by_cases e : t = j
            · subst e; rw [HL.out.1, HL.out.2]; exact of_decide_eq_true HP.out
            · exact hE.out t (by omega))
          go_wp2
          exact ⟨⟨j + 1, hlt, by go_num, hB5, HE2⟩, meas hlt (by go_num) rfl⟩
        | false =>
          have HNE := Lib.hid (show q = false from by
            rw [← HQ.out]
            exact decide_eq_false fun e => (of_decide_eq_false HP.out) (by rw [← HL.out.1, ← HL.out.2, e]))
          go_wp2
          go_ret
          exact ⟨by rw [HNE.out]; rfl, hB5⟩
      · obtain rfl : j = n := by omega
        have HEQ := Lib.hid (show q = true from by
          rw [← HQ.out]
          exact decide_eq_true (list_ext (d := []) (by rw [HN.out.1, HN.out.2]) (fun t ht => hE.out t (by rw [← HN.out.1]; exact ht))))
        go_wp2
        go_ret
        exact ⟨by rw [HEQ.out]; rfl, hBr⟩
  · have hnI : ((g.length : Int) != (h.length : Int)) = true := by simp; omega
    have HNE := Lib.hid (show q = false from by rw [← HQ.out]; exact decide_eq_false fun e => hl (by rw [e]))
    go_enter Tryd.func49, Tryd.ntmps49
    go_wp2
    go_ret
    exact ⟨by rw [HNE.out]; rfl, by repeat (first | exact Below.refl _ _ | exact hB | refine Below.drew ?_ | refine below_drewN ?_ _ | refine bset ?_ (by simp <;> omega) _ | refine bal ?_ _)⟩
set_option maxRecDepth 100000 in
set_option maxHeartbeats 2000000 in
theorem sameM_c (va vb : Value) (g h : Grid) (w : World) (ha : IsM 0 w va g) (hb : IsM 0 w vb h) (hgl : g.length ≤ 65536) (hg : ∀ i, i < g.length → (g.getD i []).length ≤ 1099511627775) (hh : ∀ i, i < h.length → (h.getD i []).length ≤ 1099511627775) :
    Calls Tryd.prog 24 #[va, vb] w fun e w' => e = .returned (.bool (decide (g = h))) ∧ Below w.heap.size w w' := by
  obtain ⟨aa, ca, rfl, la⟩ := ha
  obtain ⟨ab, cb, rfl, lb⟩ := hb
  have EC := Lib.hid (fun W (q : Below w.heap.size w W) => eqFunc_c (.slice aa g.length ca) (.slice ab h.length cb) g h W (la.keep (prs_prow 0) q) (lb.keep (prs_prow 0) q) hgl hg hh)
  clear la lb hg hh hgl
  obtain ⟨q, hq⟩ : ∃ q, decide (g = h) = q := ⟨_, rfl⟩
  rw [hq] at EC ⊢
  clear hq
  have hB := Below.refl w.heap.size w
  go_enter Tryd.func24, Tryd.ntmps24
  go_wp2_with fail
  (with_reducible refine (EC.out _ ?_).mono ?_); (repeat (first | exact Below.refl _ _ | exact hB | refine Below.drew ?_ | refine below_drewN ?_ _ | refine bset ?_ (by simp <;> omega) _ | refine bal ?_ _))
  rintro e w1 ⟨rfl, hb1⟩
  have hB1 : Below w.heap.size w w1 := bthen belA hb1
  clear EC
  go_wp2
  go_ret
  exact ⟨rfl, hB1⟩
end Go.Proofs.YthaohpfbengabaaDoor

