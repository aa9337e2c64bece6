/- Texts of this seat, laid together: MwH, MwI, MwS, MwW, MwX, MwY, MiA, MiB, RaA, RaB, RaC, RaD. Each opens with its own remark, which says what it proves, and under which conditions. -/
import Derived.Test.YtkejdmdldhlkgaaGreatDoorP19
import Derived.Test.YtkejdmdldhlkgaaGreatDoorP25
import Derived.Test.YtkejdmdldhlkgaaGreatDoorP05
import Derived.Test.YtkejdmdldhlkgaaGreatDoorP26
import Derived.Test.YtkejdmdldhlkgaaGreatDoorP22
import Derived.Test.YtkejdmdldhlkgaaGreatDoorP24
import Derived.Test.YtkejdmdldhlkgaaGreatDoorP03
import Derived.Deep.DeepCutAuto
import Derived.Test.YtkejdmdldhlkgaaGreatDoorP23
import Derived.BigQuiet
import Derived.Test.YtkejdmdldhlkgaaGreatDoorP15
import Derived.Test.YtkejdmdldhlkgaaGreatDoorP11
import Derived.Test.YtkejdmdldhlkgaaGreatDoorP06
set_option linter.unusedVariables false
set_option linter.unusedSimpArgs false
/- row: Cmp, Same; matrix: Same. -/
namespace Go.Proofs.YtkejdmdldhlkgaaGreatDoor
open Num
open Go.ChangeShapes Go.WideShapes Go.ChangeAt Go.RowKit
set_option linter.unusedVariables false
set_option linter.unusedSimpArgs false
attribute [local go_sem ↓] Go.wp_at_zero Go.wp_at_succ
theorem list_ext {α : Type} {a b : List α} {d : α} (h : a.length = b.length) (he : ∀ t, t < a.length → a.getD t d = b.getD t d) : a = b := by
  apply List.ext_getElem h
  intro i h1 h2
  have := he i h1
  simpa [h1, h2] using this
/-- a comparison of rows -/
def CmpOk (c : Int) (a b : List Int) : Prop := c = 0 ↔ a = b
theorem cmpI_zero {x y : Int} : cmpI x y = 0 ↔ x = y := by
  unfold cmpI
  split
  · constructor
    · intro h; cases h
    · intro h; omega
  · split
    · simp [*]
    · constructor
      · intro h; cases h
      · intro h; contradiction
set_option maxRecDepth 100000 in
set_option maxHeartbeats 8000000 in
theorem rowCmp_c (va vb : Value) (la lb : List Int) (w : World) (ha : PRow 0 w va la) (hb : PRow 0 w vb lb) (hla : la.length ≤ 1099511627775) (hlb : lb.length ≤ 1099511627775) :
    Calls Tryz.prog 125 #[va, vb] w fun e w' => (∃ c : Int, e = .returned (.int .i64 c) ∧ CmpOk c la lb) ∧ Below w.heap.size w w' := by
  have HA := Lib.hid ha
  have HBB := Lib.hid hb
  obtain ⟨aa, ca, rfl, -⟩ := ha
  obtain ⟨ab, cb, rfl, -⟩ := hb
  have hB := Below.refl w.heap.size w
  rcases Nat.lt_trichotomy la.length lb.length with hl | hl | hl
  · have hI : (la.length : Int) < (lb.length : Int) := by omega
    have HNE := Lib.hid (show CmpOk (-1) la lb from Iff.intro (fun h => absurd h (by decide)) (fun h => absurd hl (by rw [h]; exact Nat.lt_irrefl _)))
    go_enter Tryz.func125, Tryz.ntmps125
    go_wp2
    go_ret
    exact ⟨⟨_, rfl, HNE.out⟩, by repeat (first | exact Below.refl _ _ | exact hB | refine Below.drew ?_ | refine below_drewN ?_ _ | refine bset ?_ (by simp <;> omega) _ | refine bal ?_ _)⟩
  · have HLE := Lib.hid hl
    obtain ⟨n, hn⟩ : ∃ n, la.length = n := ⟨_, rfl⟩
    have hn2 : lb.length = n := by rw [← hl]; exact hn
    have HN := Lib.hid (And.intro hn hn2)
    rw [hn] at hla ⊢
    rw [hn2]
    clear hl hn hn2 hlb
    have hI1 : ¬ (n : Int) < (n : Int) := by omega
    go_enter Tryz.func125, Tryz.ntmps125
    go_wp2
    go_loopw [22] (fun x wr => ∃ j : Nat, j ≤ n ∧ x = .int .i64 j ∧ Below w.heap.size w wr ∧ Hid (∀ t, t < j → la.getD t 0 = lb.getD t 0)) (fun x _ => n - (intOf x).toNat)
    case atStart => exact ⟨0, Nat.zero_le _, rfl, hB, Lib.hid (fun t ht => by omega)⟩
    case round =>
      obtain ⟨j, hj, rfl, hBr, hE⟩ := hrel
      by_cases hlt : j < n
      · have hltI : (j : Int) < (n : Int) := by omega
        obtain ⟨a', c', he, -, vr⟩ := (HA.out.keep lims_int hBr).view
        obtain ⟨rfl, -, rfl⟩ := Value.slice.inj he
        obtain ⟨b', d', he2, -, vs⟩ := (HBB.out.keep lims_int hBr).view
        obtain ⟨rfl, -, rfl⟩ := Value.slice.inj he2
        obtain ⟨rb, ro, n3, a3, l3, c3, rfl, r0, r1, hi⟩ := vr j (by rw [HN.out.1]; exact hlt)
        obtain ⟨sb, so, n4, a4, l4, c4, rfl, s0, s1, hi2⟩ := vs j (by rw [HN.out.2]; exact hlt)
        have HI := Lib.hid (And.intro hi hi2)
        have kc := fun W (q : Below wr.heap.size wr W) => cmp_c _ _ (la.getD j 0) (lb.getD j 0) W (HI.out.1.keep q) (HI.out.2.keep q)
        obtain ⟨c, hc⟩ : ∃ c, cmpI (la.getD j 0) (lb.getD j 0) = c := ⟨_, rfl⟩
        have HC := Lib.hid hc
        rw [hc] at kc
        have KC := Lib.hid kc
        have zr := cell_lt r0
        have zs := cell_lt s0
        clear hc kc hi hi2 vr vs he he2
        have hBw := Below.refl wr.heap.size wr
        go_wp2
        refine wp_name fun w3 hW3 => ?_
        have hb3 : Below wr.heap.size wr w3 := by rw [hW3]; repeat (first | exact Below.refl _ _ | exact hBw | refine Below.drew ?_ | refine below_drewN ?_ _ | refine bset ?_ (by simp <;> omega) _ | refine bal ?_ _)
        obtain ⟨x0, x1⟩ : w3.cell? ⟨wr.heap.size, 0, none⟩ = some (.bool n3) ∧ w3.cell? ⟨wr.heap.size, 1, none⟩ = some (.slice a3 l3 c3) := by rw [hW3]; simp [go_sem]
        replace s0 := bkeep hb3 s0
        replace s1 := bkeep hb3 s1
        clear hW3 r0 r1
        have zx := cell_lt x0
        replace zs := cell_lt s0
        have HS := Lib.hid (show ∀ W, Below w3.heap.size w3 W → W.cell? ⟨wr.heap.size, 0, none⟩ = some (.bool n3) ∧ W.cell? ⟨wr.heap.size, 1, none⟩ = some (.slice a3 l3 c3) ∧ W.cell? ⟨sb, so + j * 2, none⟩ = some (.bool n4) ∧ W.cell? ⟨sb, so + j * 2 + 1, none⟩ = some (.slice a4 l4 c4) from fun W q => ⟨bkeep q x0, bkeep q x1, bkeep q s0, bkeep q s1⟩)
        have hBx := Below.refl w3.heap.size w3
        go_region_held3 (fun W => W.cell? ⟨wr.heap.size, 0, none⟩ = some (.bool n3) ∧ W.cell? ⟨wr.heap.size, 1, none⟩ = some (.slice a3 l3 c3) ∧ W.cell? ⟨sb, so + j * 2, none⟩ = some (.bool n4) ∧ W.cell? ⟨sb, so + j * 2 + 1, none⟩ = some (.slice a4 l4 c4))
          (first | (refine HS.out _ ?_; (repeat (first | exact Below.refl _ _ | exact hBx | refine Below.drew ?_ | refine below_drewN ?_ _ | refine bset ?_ (by simp <;> omega) _ | refine bal ?_ _)); done) | fail)
          (first
          | (go_at_call 25; (with_reducible refine (KC.out _ ?_).mono ?_); (refine bthen hb3 ?_; (repeat (first | exact Below.refl _ _ | exact hBx | refine Below.drew ?_ | refine below_drewN ?_ _ | refine bset ?_ (by simp <;> omega) _ | refine bal ?_ _))); rintro e w5 ⟨rfl, hb5⟩; (have hBd : Below w3.heap.size w3 w5 := bthen (by repeat (first | exact Below.refl _ _ | exact hBx | refine Below.drew ?_ | refine below_drewN ?_ _ | refine bset ?_ (by simp <;> omega) _ | refine bal ?_ _)) hb5; clear hBx; have hBx := hBd; clear hBd))
          | fail)
        all_goals
          have hB5 := bthen hBr (bthen hb3 hBx)
          by_cases hc0 : c = 0
          · have hcI : (c != 0) = false := by simp [hc0]
            have HE2 := Lib.hid (show ∀ t, t < j + 1 → la.getD t 0 = lb.getD t 0 from fun t ht => by
              by_cases e : t = j
              · subst e; exact cmpI_zero.1 (by rw [HC.out]; exact hc0)
              · exact hE.out t (by omega))
            clear hc0 x0 x1 s0 s1 HS
            go_wp2
            exact ⟨⟨j + 1, hlt, by go_num, hB5, HE2⟩, meas hlt (by go_num) rfl⟩
          · have hcI : (c != 0) = true := by simp [hc0]
            have HNE := Lib.hid (show CmpOk c la lb from ⟨fun h => absurd h hc0, fun h => by rw [← HC.out, h]; exact cmpI_zero.2 rfl⟩)
            clear hc0 x0 x1 s0 s1 HS
            go_wp2
            go_ret
            exact ⟨⟨_, rfl, HNE.out⟩, hB5⟩
      · obtain rfl : j = n := by omega
        have HEQ := Lib.hid (show CmpOk 0 la lb from ⟨fun _ => list_ext (d := 0) HLE.out (fun t ht => hE.out t (by rw [← HN.out.1]; exact ht)), fun _ => rfl⟩)
        go_wp2
        go_ret
        exact ⟨⟨_, rfl, HEQ.out⟩, hBr⟩
  · have hI : (lb.length : Int) < (la.length : Int) := by omega
    have hI2 : ¬ (la.length : Int) < (lb.length : Int) := by omega
    have HNE := Lib.hid (show CmpOk 1 la lb from Iff.intro (fun h => absurd h (by decide)) (fun h => absurd hl (by rw [h]; exact Nat.lt_irrefl _)))
    go_enter Tryz.func125, Tryz.ntmps125
    go_wp2
    go_ret
    exact ⟨⟨_, rfl, HNE.out⟩, by repeat (first | exact Below.refl _ _ | exact hB | refine Below.drew ?_ | refine below_drewN ?_ _ | refine bset ?_ (by simp <;> omega) _ | refine bal ?_ _)⟩
set_option maxRecDepth 100000 in
set_option maxHeartbeats 2000000 in
theorem rowSame_c (va vb : Value) (la lb : List Int) (w : World) (ha : PRow 0 w va la) (hb : PRow 0 w vb lb) (hla : la.length ≤ 1099511627775) (hlb : lb.length ≤ 1099511627775) :
    Calls Tryz.prog 83 #[va, vb] w fun e w' => e = .returned (.bool (decide (la = lb))) ∧ Below w.heap.size w w' := by
  have kc := Lib.hid (fun W (q : Below w.heap.size w W) => rowCmp_c va vb la lb W (ha.keep lims_int q) (hb.keep lims_int q) hla hlb)
  obtain ⟨aa, ca, rfl, -⟩ := ha
  obtain ⟨ab, cb, rfl, -⟩ := hb
  have hB := Below.refl w.heap.size w
  obtain ⟨q, hq⟩ : ∃ q, decide (la = lb) = q := ⟨_, rfl⟩
  have HQ := Lib.hid hq
  rw [hq]
  clear hq
  go_enter Tryz.func83, Tryz.ntmps83
  go_wp2_with fail
  (with_reducible refine (kc.out _ ?_).mono ?_); (repeat (first | exact Below.refl _ _ | exact hB | refine Below.drew ?_ | refine below_drewN ?_ _ | refine bset ?_ (by simp <;> omega) _ | refine bal ?_ _))
  rintro e w1 ⟨⟨c, rfl, hc⟩, hb1⟩
  have hB1 : Below w.heap.size w w1 := bthen (by repeat (first | exact Below.refl _ _ | exact hB | refine Below.drew ?_ | refine below_drewN ?_ _ | refine bset ?_ (by simp <;> omega) _ | refine bal ?_ _)) hb1
  have hcq : (c == 0) = q := by
    rw [← HQ.out]
    by_cases h : c = 0
    · simp [h, hc.1 h]
    · have : ¬ la = lb := fun e => h (hc.2 e)
      simp [h, this]
  clear kc hc
  go_wp2
  go_ret
  exact ⟨rfl, hB1⟩
end Go.Proofs.YtkejdmdldhlkgaaGreatDoor

/- matrix: Same. -/
namespace Go.Proofs.YtkejdmdldhlkgaaGreatDoor
open Num
open Go.ChangeShapes Go.WideShapes Go.ChangeAt Go.RowKit
set_option linter.unusedVariables false
set_option linter.unusedSimpArgs false
attribute [local go_sem ↓] Go.wp_at_zero Go.wp_at_succ
set_option maxRecDepth 100000 in
set_option maxHeartbeats 8000000 in
theorem eqFunc_c (va vb : Value) (g h : Grid) (w : World) (ha : IsL 54 (PRow 0) 0 w va g) (hb : IsL 54 (PRow 0) 0 w vb h) (hgl : g.length ≤ 65536) (hg : ∀ i, i < g.length → (g.getD i []).length ≤ 1099511627775) (hh : ∀ i, i < h.length → (h.getD i []).length ≤ 1099511627775) :
    Calls Tryz.prog 82 #[va, vb, .func (.func 83) #[] #[]] w fun e w' => e = .returned (.bool (decide (g = h))) ∧ Below w.heap.size w w' := by
  have HA := Lib.hid ha
  have HBB := Lib.hid hb
  have HG := Lib.hid (And.intro hg hh)
  obtain ⟨aa, ca, rfl, -⟩ : ∃ a c, va = .slice a g.length c ∧ True := by obtain ⟨a, c, e, _⟩ := ha.view; exact ⟨a, c, e, trivial⟩
  obtain ⟨ab, cb, rfl, -⟩ : ∃ a c, vb = .slice a h.length c ∧ True := by obtain ⟨a, c, e, _⟩ := hb.view; exact ⟨a, c, e, trivial⟩
  clear ha hb hg hh
  obtain ⟨q, hq⟩ : ∃ q, decide (g = h) = q := ⟨_, rfl⟩
  have HQ := Lib.hid hq
  rw [hq]
  clear hq
  have hB := Below.refl w.heap.size w
  by_cases hl : g.length = h.length
  · obtain ⟨n, hn⟩ : ∃ n, g.length = n := ⟨_, rfl⟩
    have hn2 : h.length = n := by rw [← hl]; exact hn
    have HN := Lib.hid (And.intro hn hn2)
    rw [hn] at hgl ⊢
    rw [hn2]
    clear hl hn hn2
    have hnn : ((n : Int) != (n : Int)) = false := by simp
    go_enter Tryz.func82, Tryz.ntmps82
    go_wp2
    go_loopw [17] (fun x wr => ∃ j : Nat, j ≤ n ∧ x = .int .i64 j ∧ Below w.heap.size w wr ∧ Hid (∀ t, t < j → g.getD t [] = h.getD t [])) (fun x _ => n - (intOf x).toNat)
    case atStart => exact ⟨0, Nat.zero_le _, rfl, hB, Lib.hid (fun t ht => by omega)⟩
    case round =>
      obtain ⟨j, hj, rfl, hBr, hE⟩ := hrel
      by_cases hlt : j < n
      · have hltI : (j : Int) < (n : Int) := by omega
        obtain ⟨c1, gb1, go1, ra1, rc1, e1, hu1, hp1⟩ := (HA.out.keep (prs_prow 0) hBr).row (i := j) (by rw [HN.out.1]; exact hlt)
        obtain ⟨rfl, -, rfl⟩ := Value.slice.inj e1
        obtain ⟨c2, gb2, go2, ra2, rc2, e2, hu2, hp2⟩ := (HBB.out.keep (prs_prow 0) hBr).row (i := j) (by rw [HN.out.2]; exact hlt)
        obtain ⟨rfl, -, rfl⟩ := Value.slice.inj e2
        have b1 := HG.out.1 j (by rw [HN.out.1]; exact hlt)
        have b2 := HG.out.2 j (by rw [HN.out.2]; exact hlt)
        obtain ⟨l1, hl1⟩ : ∃ l, g.getD j [] = l := ⟨_, rfl⟩
        obtain ⟨l2, hl2⟩ : ∃ l, h.getD j [] = l := ⟨_, rfl⟩
        rw [hl1] at hu1 hp1 b1
        rw [hl2] at hu2 hp2 b2
        have HL := Lib.hid (And.intro hl1 hl2)
        have KC := Lib.hid (fun W (q : Below wr.heap.size wr W) => rowSame_c (.slice ra1 l1.length rc1) (.slice ra2 l2.length rc2) l1 l2 W (hp1.keep lims_int q) (hp2.keep lims_int q) b1 b2)
        have z1 := cell_lt hu1
        have z2 := cell_lt hu2
        have hBw := Below.refl wr.heap.size wr
        clear e1 e2 hp1 hp2 b1 b2 hl1 hl2
        obtain ⟨p, hp⟩ : ∃ p, decide (l1 = l2) = p := ⟨_, rfl⟩
        have HP := Lib.hid hp
        rw [hp] at KC
        clear hp
        go_wp2_with fail
        (with_reducible refine (KC.out _ ?_).mono ?_); (repeat (first | exact Below.refl _ _ | exact hBw | refine Below.drew ?_ | refine below_drewN ?_ _ | refine bset ?_ (by simp <;> omega) _ | refine bal ?_ _))
        rintro e w5 ⟨rfl, hb5⟩
        have hB5 := bthen hBr (bthen (show Below wr.heap.size wr _ by repeat (first | exact Below.refl _ _ | exact hBw | refine Below.drew ?_ | refine below_drewN ?_ _ | refine bset ?_ (by simp <;> omega) _ | refine bal ?_ _)) hb5)
        clear KC hu1 hu2
        cases p with
        | true =>
          have HE2 := Lib.hid (show ∀ t, t < j + 1 → g.getD t [] = h.getD t [] from fun t ht => by
            by_cases e : t = j
            · subst e; rw [HL.out.1, HL.out.2]; exact of_decide_eq_true HP.out
            · exact hE.out t (by omega))
          go_wp2
          exact ⟨⟨j + 1, hlt, by go_num, hB5, HE2⟩, meas hlt (by go_num) rfl⟩
        | false =>
          have HNE := Lib.hid (show q = false from by
            rw [← HQ.out]
            exact decide_eq_false fun e => (of_decide_eq_false HP.out) (by rw [← HL.out.1, ← HL.out.2, e]))
          go_wp2
          go_ret
          exact ⟨by rw [HNE.out]; rfl, hB5⟩
      · obtain rfl : j = n := by omega
        have HEQ := Lib.hid (show q = true from by
          rw [← HQ.out]
          exact decide_eq_true (list_ext (d := []) (by rw [HN.out.1, HN.out.2]) (fun t ht => hE.out t (by rw [← HN.out.1]; exact ht))))
        go_wp2
        go_ret
        exact ⟨by rw [HEQ.out]; rfl, hBr⟩
  · have hnI : ((g.length : Int) != (h.length : Int)) = true := by simp; omega
    have HNE := Lib.hid (show q = false from by rw [← HQ.out]; exact decide_eq_false fun e => hl (by rw [e]))
    go_enter Tryz.func82, Tryz.ntmps82
    go_wp2
    go_ret
    exact ⟨by rw [HNE.out]; rfl, by repeat (first | exact Below.refl _ _ | exact hB | refine Below.drew ?_ | refine below_drewN ?_ _ | refine bset ?_ (by simp <;> omega) _ | refine bal ?_ _)⟩
set_option maxRecDepth 100000 in
set_option maxHeartbeats 2000000 in
theorem sameM_c (va vb : Value) (g h : Grid) (w : World) (ha : IsM 0 w va g) (hb : IsM 0 w vb h) (hgl : g.length ≤ 65536) (hg : ∀ i, i < g.length → (g.getD i []).length ≤ 1099511627775) (hh : ∀ i, i < h.length → (h.getD i []).length ≤ 1099511627775) :
    Calls Tryz.prog 34 #[va, vb] w fun e w' => e = .returned (.bool (decide (g = h))) ∧ Below w.heap.size w w' := by
  obtain ⟨aa, ca, rfl, la⟩ := ha
  obtain ⟨ab, cb, rfl, lb⟩ := hb
  have EC := Lib.hid (fun W (q : Below w.heap.size w W) => eqFunc_c (.slice aa g.length ca) (.slice ab h.length cb) g h W (la.keep (prs_prow 0) q) (lb.keep (prs_prow 0) q) hgl hg hh)
  clear la lb hg hh hgl
  obtain ⟨q, hq⟩ : ∃ q, decide (g = h) = q := ⟨_, rfl⟩
  rw [hq] at EC ⊢
  clear hq
  have hB := Below.refl w.heap.size w
  go_enter Tryz.func34, Tryz.ntmps34
  go_wp2_with fail
  (with_reducible refine (EC.out _ ?_).mono ?_); (repeat (first | exact Below.refl _ _ | exact hB | refine Below.drew ?_ | refine below_drewN ?_ _ | refine bset ?_ (by simp <;> omega) _ | refine bal ?_ _))
  rintro e w1 ⟨rfl, hb1⟩
  have hB1 : Below w.heap.size w w1 := bthen (by repeat (first | exact Below.refl _ _ | exact hB | refine Below.drew ?_ | refine below_drewN ?_ _ | refine bset ?_ (by simp <;> omega) _ | refine bal ?_ _)) hb1
  clear EC
  go_wp2
  go_ret
  exact ⟨rfl, hB1⟩
end Go.Proofs.YtkejdmdldhlkgaaGreatDoor

/- matrices that New makes: what is done to them, in one form. -/
namespace Go.Proofs.YtkejdmdldhlkgaaGreatDoor
open Num
open Go.ChangeShapes Go.WideShapes Go.ChangeAt Go.RowKit
set_option linter.unusedVariables false
set_option linter.unusedSimpArgs false
/-- a matrix in memory, of sixteen rows and columns at most -/
structure Mt (k : Nat) (g : Grid) (v : Value) (w : World) : Prop where
  m : IsM 0 w v g
  rc : Rct g (cols g)
  sz : 0 < g.length ∧ 0 < cols g ∧ g.length ≤ 16 ∧ cols g ≤ 16
  bd : BdM k g
theorem Mt.keep {k : Nat} {g : Grid} {v : Value} {w w' : World} (h : Mt k g v w) (b : Below w.heap.size w w') : Mt k g v w' := ⟨h.m.keep b, h.rc, h.sz, h.bd⟩
theorem Mt.mono {k m : Nat} {g : Grid} {v : Value} {w : World} (h : Mt k g v w) (hk : k ≤ m) : Mt m g v w := ⟨h.m, h.rc, h.sz, h.bd.mono hk⟩
theorem Mt.al {k : Nat} {g : Grid} {v : Value} {w : World} (h : Mt k g v w) (o : Obj) : Mt k g v (w.alloc o) := h.keep (bal (Below.refl _ _) _)
theorem Mt.dr {k : Nat} {g : Grid} {v : Value} {w : World} (h : Mt k g v w) : Mt k g v w.drew := h.keep (Below.refl _ _).drew
theorem Mt.setM {k : Nat} {g : Grid} {v : Value} {w : World} (h : Mt k g v w) {p : Addr} (ht : typOf w p.block = some 34) (u : Value) : Mt k g v (w.setCell p u) := ⟨h.m.setM ht u, h.rc, h.sz, h.bd⟩
theorem Mt.times {k m n : Nat} {g h : Grid} {v u : Value} {w : World} (h1 : Mt k g v w) (h2 : Mt m h u w) (e : cols g = h.length) (hk : k + m + 16 ≤ 17179869184) (hn : g.length = n) :
    Calls Tryz.prog 31 #[v, u] w fun e w' => (∃ a c, e = .returned (.tuple #[.agg #[.slice a n c], .int .i64 0]) ∧ Mt (k + m + 16) (timesG g h) (.agg #[.slice a n c]) w') ∧ Below w.heap.size w w' := by
  have s1 := h1.sz
  have s2 := h2.sz
  refine (timesM_c v u g h k m w h1.m h2.m h1.rc h2.rc h1.bd h2.bd (by omega) (by omega) (by omega) (by omega)).mono ?_
  rintro ee w' ⟨ho, hb⟩
  refine ⟨?_, hb⟩
  rcases ho with ⟨-, x, rfl, hx⟩ | ⟨no, -⟩
  · have hx := hx.rebase (Nat.zero_le _)
    obtain ⟨a, c, rfl⟩ := hx.lit
    rw [times_len, hn] at hx ⊢
    exact ⟨a, c, rfl, hx, by rw [times_cols (by omega)]; exact times_rct g h, ⟨by rw [times_len]; omega, by rw [times_cols (by omega)]; omega, by rw [times_len]; omega, by rw [times_cols (by omega)]; omega⟩, (show BdM (k + m + cols g) (timesG g h) from tab_bd fun i j _ _ => isum_bd (fun t => (h1.bd i t).mul (h2.bd t j)) _).mono (by omega)⟩
  · exact absurd ⟨e, by omega⟩ no
theorem Mt.scale {k m n : Nat} {g : Grid} {c : Int} {v u : Value} {w : World} (h1 : Mt k g v w) (hu : IsInt w u c) (hc : Bd m c) (hk : k ≤ 17179869184) (hm : m ≤ 17179869184) (hn : g.length = n) :
    Calls Tryz.prog 35 #[v, u] w fun e w' => (∃ a c', e = .returned (.agg #[.slice a n c']) ∧ Mt (k + m) (scaleG g c) (.agg #[.slice a n c']) w') ∧ Below w.heap.size w w' := by
  have s1 := h1.sz
  refine (scaleM_c v u g c k m w h1.m hu h1.rc h1.bd hc hk hm (by omega) (by omega)).mono ?_
  rintro ee w' ⟨⟨x, rfl, hx⟩, hb⟩
  refine ⟨?_, hb⟩
  have hx := hx.rebase (Nat.zero_le _)
  obtain ⟨a, c', rfl⟩ := hx.lit
  have e : cols (scaleG g c) = cols g := tab_cols _ (by omega)
  have e2 : (scaleG g c).length = g.length := tab_len _ _ _
  rw [e2, hn] at hx ⊢
  exact ⟨a, c', rfl, hx, by rw [e]; exact tab_rect _ _ _, ⟨by rw [e2]; omega, by rw [e]; omega, by rw [e2]; omega, by rw [e]; omega⟩, tab_bd fun i j _ _ => (h1.bd i j).mul hc⟩
theorem Mt.same {k m : Nat} {g h : Grid} {v u : Value} {w : World} (h1 : Mt k g v w) (h2 : Mt m h u w) (e : g = h) :
    Calls Tryz.prog 34 #[v, u] w fun e w' => e = .returned (.bool true) ∧ Below w.heap.size w w' := by
  have s1 := h1.sz
  have s2 := h2.sz
  subst e
  have h := sameM_c v u g g w h1.m h2.m (by omega) (fun i hi => by rw [h1.rc i hi]; omega) (fun i hi => by rw [h2.rc i hi]; omega)
  rw [show decide (g = g) = true by simp] at h
  exact h
theorem prow_keep {base : Nat} {w w' : World} {v : Value} {l : List Int} (h : PRow base w v l) (k : Below w.heap.size w w') : PRow base w' v l := IsRow.keep lims_int h k
theorem cmpI_self (x : Int) : cmpI x x = 0 := by unfold cmpI; rw [if_neg (by omega), if_pos rfl]
theorem cmp_same {vx vy : Value} {x : Int} {w : World} (hx : IsInt w vx x) (hy : IsInt w vy x) : Calls Tryz.prog 25 #[vx, vy] w fun e w' => e = .returned (.int .i64 0) ∧ Below w.heap.size w w' := by
  have h := cmp_c vx vy x x w hx hy
  rw [cmpI_self] at h
  exact h
theorem app_bd2 {g : Grid} {l : List Int} {k m : Nat} (rg : Rct g (cols g)) (hl : l.length = cols g) (h1 : BdM k g) (h2 : ∀ j, Bd m (l.getD j 0)) : ∀ j, Bd (k + m + cols g) ((applyG g l).getD j 0) := fun j => by
  by_cases hj : j < g.length
  · rw [app_at rg hl hj]
    exact isum_bd (fun t => (h1 j t).mul (h2 t)) _
  · rw [List.getD_eq_getElem?_getD, List.getElem?_eq_none (by rw [app_len]; omega)]; exact bd_zero
theorem Mt.apply {k m n : Nat} {g : Grid} {l : List Int} {v u : Value} {w : World} (h1 : Mt k g v w) (hu : PRow 0 w u l) (hl : l.length = cols g) (bl : ∀ j, Bd m (l.getD j 0)) (hk : k + m + 16 ≤ 17179869184) (hn : g.length = n) :
    Calls Tryz.prog 22 #[v, u] w fun e w' => (∃ a c, e = .returned (.tuple #[.slice a n c, .int .i64 0]) ∧ PRow 0 w' (.slice a n c) (applyG g l) ∧ (applyG g l).length = n ∧ ∀ j, Bd (k + m + 16) ((applyG g l).getD j 0)) ∧ Below w.heap.size w w' := by
  have s1 := h1.sz
  refine (applyM_c v u g l k m w h1.m hu h1.rc (by omega) (by omega) (by omega) h1.bd bl (by omega)).mono ?_
  rintro ee w' ⟨ho, hb⟩
  refine ⟨?_, hb⟩
  rcases ho with ⟨-, -, x, rfl, hx⟩ | ⟨no, -⟩
  · obtain ⟨a, c, rfl⟩ := hx.ex
    have hx2 : PRow 0 w' _ (applyG g l) := hx.row.rebase (Nat.zero_le _)
    rw [app_len, hn] at hx2 ⊢
    exact ⟨a, c, rfl, hx2, rfl, fun j => (app_bd2 h1.rc hl h1.bd bl j).mono (by omega)⟩
  · exact absurd ⟨by omega, hl⟩ no
end Go.Proofs.YtkejdmdldhlkgaaGreatDoor

/- matrix: what Pivots' iterator tells; Rank. -/
namespace Go.Proofs.YtkejdmdldhlkgaaGreatDoor
open Num
open Go.ChangeShapes Go.WideShapes Go.ChangeAt Go.RowKit
set_option linter.unusedVariables false
set_option linter.unusedSimpArgs false
attribute [local go_sem ↓] Go.wp_at_zero Go.wp_at_succ
/-- all cells but those of one block lie as they lay -/
def KpC (c : Nat) (X Y : World) : Prop := X.heap.size ≤ Y.heap.size ∧ ∀ (B i : Nat) (v : Value), B ≠ c → X.cell? ⟨B, i, none⟩ = some v → Y.cell? ⟨B, i, none⟩ = some v
theorem KpC.refl (c : Nat) (X : World) : KpC c X X := ⟨Nat.le_refl _, fun _ _ _ _ h => h⟩
theorem KpC.trans {c : Nat} {X Y Z : World} (h : KpC c X Y) (k : KpC c Y Z) : KpC c X Z := ⟨Nat.le_trans h.1 k.1, fun B i v hb hv => k.2 B i v hb (h.2 B i v hb hv)⟩
theorem KpC.put {c l : Nat} {X : World} {o o' : Obj} (h : X.heap[l]? = some o) (ho : o.isCells = false) : KpC c X (X.putObj l o') := ⟨Nat.le_of_eq (by simp), fun B i v _ hc => by
  have e : B ≠ l := fun e => by
    subst e
    obtain ⟨o2, h2, c2⟩ := cells_of_cell hc
    have h2' : X.heap[B]? = some o2 := h2
    rw [h] at h2'; cases h2'; rw [ho] at c2; cases c2
  rw [World.cell?_of_block (w := X) (World.putObj_heap_other e)]; exact hc⟩
/-- the list of the pivots' columns -/
def IsPv (b0 : Nat) (w : World) (v : Value) (L : List Nat) : Prop := IsL 3 PInt b0 w v L
theorem IsPv.al {b0 : Nat} {w : World} {v : Value} {L : List Nat} (h : IsPv b0 w v L) (o : Obj) : IsPv b0 (w.alloc o) v L := IsL.keep prs_pint h (bal (Below.refl _ _) _)
theorem IsPv.dr {b0 : Nat} {w : World} {v : Value} {L : List Nat} (h : IsPv b0 w v L) : IsPv b0 w.drew v L := IsL.keep prs_pint h (Below.refl _ _).drew
theorem IsPv.setT {b0 : Nat} {w : World} {v : Value} {L : List Nat} (h : IsPv b0 w v L) {p : Addr} (ht : typOf w p.block = some 41) (u : Value) : IsPv b0 (w.setCell p u) v L :=
  IsL.kp (S' := fun t => t ≠ 41) prs_pint h ((Kp.refl _ _).set (fun t ht' => by rw [ht] at ht'; cases ht'; exact fun h => h rfl) _) (fun t ht => ht.elim) (by decide)
end Go.Proofs.YtkejdmdldhlkgaaGreatDoor

/- matrix: Rank. -/
namespace Go.Proofs.YtkejdmdldhlkgaaGreatDoor
open Num
open Go.ChangeShapes Go.WideShapes Go.ChangeAt Go.RowKit
set_option linter.unusedVariables false
set_option linter.unusedSimpArgs false
attribute [local go_sem ↓] Go.wp_at_zero Go.wp_at_succ
attribute [local go_sem] Oper.semAt_some
end Go.Proofs.YtkejdmdldhlkgaaGreatDoor

/- matrices, plain: determinants of what is turned, swapped, multiplied; ranks. -/
namespace Go.Proofs.YtkejdmdldhlkgaaGreatDoor
open Num
open Go.ChangeShapes Go.WideShapes Go.ChangeAt Go.RowKit
set_option linter.unusedVariables false
set_option linter.unusedSimpArgs false
/-- a list of the call's own: where it lies; that it may be written -/
theorem OwnL.place {α : Type} {T : TypeId} {Pr : World → Value → α → Prop} {w0 wr : World} {v : Value} {g : List α} (h : OwnL T Pr w0 wr v g) (hl : 0 < g.length) :
    ∃ b cap, v = .slice (some ⟨b, 0, none⟩) g.length cap ∧ w0.heap.size ≤ b ∧ b < wr.heap.size ∧ ∀ j, wr.frozen? ⟨b, j, none⟩ = false := by
  obtain ⟨xs, ⟨⟨hl', h1⟩, _⟩, h2⟩ := h
  rcases h1 with ⟨rfl, h0⟩ | ⟨b, cap, cur, rfl, hg, hh, hc, hm, hs, ht⟩
  · omega
  · exact ⟨b, cap, rfl, hg, (Array.getElem?_eq_some_iff.1 hh).1, fun j => by simp [World.frozen?, hh]⟩
theorem Mt.det {K : Nat} {g : Grid} {v : Value} {w : World} (h : Mt K g v w) (hs : g.length = cols g) (hK1 : 1 ≤ K) (hK : kb K 16 ≤ 4294967296) :
    Calls Tryz.prog 27 #[v] w fun e w' => (∃ nb a l c, e = .returned (.tuple #[.agg #[.bool nb, .slice a l c], .int .i64 0]) ∧ IsInt w' (.agg #[.bool nb, .slice a l c]) (Det.detE g.length (gat g))) ∧ Below w.heap.size w w' := by
  have s := h.sz
  refine (detM_c v g K w h.m h.rc (by omega) hK1 h.bd (Nat.le_trans (kb_mono K s.2.2.1) hK)).mono ?_
  rintro e w' ⟨ho, hb⟩
  refine ⟨?_, hb⟩
  have hsq : sqB g = true := by unfold sqB; simp; exact ⟨s.1, hs⟩
  rcases ho with ⟨-, u, rfl, hu⟩ | ⟨h2, -⟩
  · have hu2 := hu
    obtain ⟨nb, a, c, l, rfl, -⟩ := hu
    exact ⟨nb, a, l.length, c, rfl, hu2⟩
  · rw [hsq] at h2; cases h2
theorem fits_of {g : Grid} (s : 0 < g.length ∧ 0 < cols g ∧ g.length ≤ 16 ∧ cols g ≤ 16) (r : Rct g (cols g)) : fitsE g = 0 := by
  unfold fitsE
  rw [if_neg (by omega), if_neg (by omega), if_pos (fun i hi => r i hi)]
end Go.Proofs.YtkejdmdldhlkgaaGreatDoor

/- matrix's laws: unit: a number times the identity. -/
namespace Go.Proofs.YtkejdmdldhlkgaaGreatDoor
open Num
open Go.ChangeShapes Go.WideShapes Go.ChangeAt Go.RowKit
set_option linter.unusedVariables false
set_option linter.unusedSimpArgs false
attribute [local go_sem ↓] Go.wp_at_zero Go.wp_at_succ
theorem idG_len (n : Nat) : (idG n).length = n := tab_len _ _ _
theorem idG_cols {n : Nat} (h : 0 < n) : cols (idG n) = n := tab_cols _ h
theorem idG_bd1 (n : Nat) : BdM 1 (idG n) := tab_bd fun i j _ _ => by
  by_cases h : i = j
  · rw [if_pos h]; unfold Bd; decide
  · rw [if_neg h]; exact bd_zero
theorem Mt.ident {n : Nat} {w : World} (h1 : 1 ≤ n) (h2 : n ≤ 16) :
    Calls Tryz.prog 32 #[.int .i64 (n : Nat)] w fun e w' => (∃ a c, e = .returned (.tuple #[.agg #[.slice a n c], .int .i64 0]) ∧ Mt 1 (idG n) (.agg #[.slice a n c]) w') ∧ Below w.heap.size w w' := by
  refine (identity_c (n : Int) w).mono ?_
  rintro e w' ⟨ho, hb⟩
  refine ⟨?_, hb⟩
  rcases ho with ⟨h, -⟩ | ⟨h, -⟩ | ⟨-, -, v, rfl, hv⟩
  · omega
  · omega
  · have hv := hv.rebase (Nat.zero_le _)
    rw [Int.toNat_natCast] at hv
    obtain ⟨a, c, rfl⟩ := hv.lit
    rw [idG_len] at hv ⊢
    exact ⟨a, c, rfl, hv, by rw [idG_cols h1]; exact tab_rect _ _ _, ⟨by rw [idG_len]; omega, by rw [idG_cols h1]; omega, by rw [idG_len]; omega, by rw [idG_cols h1]; omega⟩, idG_bd1 n⟩
end Go.Proofs.YtkejdmdldhlkgaaGreatDoor

/- matrices, plain: the adjugate, the inverse, what divides all its numbers. -/
namespace Go.Proofs.YtkejdmdldhlkgaaGreatDoor
open Num
set_option linter.unusedVariables false
set_option linter.unusedSimpArgs false
theorem gcd_dvdL (x y : Int) : gcdI x y ∣ x := Int.gcd_dvd_left (a := x) (b := y)
theorem gcd_dvdR (x y : Int) : gcdI x y ∣ y := Int.gcd_dvd_right (a := x) (b := y)
theorem fold_dvd : ∀ (l : List Int) (c : Int), l.foldl gcdI c ∣ c ∧ ∀ x ∈ l, l.foldl gcdI c ∣ x
  | [], c => ⟨Int.dvd_refl c, fun x h => by simp at h⟩
  | y :: l, c => by
    obtain ⟨h1, h2⟩ := fold_dvd l (gcdI c y)
    refine ⟨Int.dvd_trans h1 (gcd_dvdL c y), fun x hx => ?_⟩
    rcases List.mem_cons.1 hx with rfl | hx
    · exact Int.dvd_trans h1 (gcd_dvdR c x)
    · exact h2 x hx
theorem com_dvd : ∀ (a : Grid) (c : Int), comG c a ∣ c ∧ ∀ r ∈ a, ∀ x ∈ r, comG c a ∣ x
  | [], c => ⟨Int.dvd_refl c, fun r h => by simp at h⟩
  | y :: a, c => by
    obtain ⟨h1, h2⟩ := com_dvd a (gcdI c (contL y))
    refine ⟨Int.dvd_trans h1 (gcd_dvdL c _), fun r hr x hx => ?_⟩
    rcases List.mem_cons.1 hr with rfl | hr
    · exact Int.dvd_trans (Int.dvd_trans h1 (gcd_dvdR c _)) ((fold_dvd r 0).2 x hx)
    · exact h2 r hr x hx
theorem com_nn : ∀ (a : Grid) (c : Int), 0 ≤ c → 0 ≤ comG c a
  | [], c, h => h
  | y :: a, c, _ => com_nn a (gcdI c (contL y)) (Int.natCast_nonneg _)
theorem gat_mem {g : Grid} {i j : Nat} (hi : i < g.length) (hj : j < (g.getD i []).length) : ∃ r ∈ g, gat g i j ∈ r := by
  refine ⟨g.getD i [], ?_, ?_⟩
  · rw [List.getD_eq_getElem?_getD, List.getElem?_eq_getElem hi]; exact List.getElem_mem _
  · unfold gat
    rw [List.getD_eq_getElem?_getD (l := g.getD i []), List.getElem?_eq_getElem hj]; exact List.getElem_mem _
section
variable {g : Grid} {n : Nat}
theorem adj_gat {i j : Nat} (hi : i < g.length) (hj : j < g.length) : gat (adjG g) i j = Det.iadj g.length (gat g) i j := tab_gat hi hj
theorem adj_cols (h : 0 < g.length) : cols (adjG g) = g.length := tab_cols _ h
theorem id_gat {i j : Nat} (hi : i < n) (hj : j < n) : gat (idG n) i j = if i = j then 1 else 0 := tab_gat hi hj
theorem scale_id (d : Int) : scaleG (idG n) d = tab n n fun i j => if i = j then d else 0 := by
  by_cases h : 0 < n
  · unfold scaleG
    rw [idG_len, idG_cols h]
    refine tab_congr fun i j hi hj => ?_
    rw [id_gat hi hj]
    split <;> omega
  · obtain rfl : n = 0 := by omega
    rfl
theorem invS_abs : (invS g).natAbs = (comG (Det.detE g.length (gat g)) (adjG g)).natAbs := by
  unfold invS; split
  · rw [Int.natAbs_neg]
  · rfl
theorem invS_dvd {e : Int} : invS g ∣ e ↔ comG (Det.detE g.length (gat g)) (adjG g) ∣ e := by
  rw [← Int.natAbs_dvd, invS_abs, Int.natAbs_dvd]
theorem invS_det : invS g ∣ Det.detE g.length (gat g) := invS_dvd.2 (com_dvd _ _).1
theorem invS_adj {i j : Nat} (hi : i < g.length) (hj : j < g.length) : invS g ∣ gat (adjG g) i j := by
  obtain ⟨r, hr, hx⟩ := gat_mem (g := adjG g) (i := i) (j := j) (by rw [adj_len]; exact hi) (by rw [show ((adjG g).getD i []).length = g.length from tab_rowlen hi]; exact hj)
  exact invS_dvd.2 ((com_dvd (adjG g) _).2 r hr _ hx)
theorem com_nz {a : Grid} {d : Int} (h : d ≠ 0) : comG d a ≠ 0 := fun e => by
  have := (com_dvd a d).1
  rw [e] at this
  exact h (Int.zero_dvd.1 this)
theorem invS_nz (h : Det.detE g.length (gat g) ≠ 0) : invS g ≠ 0 := fun e => by
  have h1 := invS_abs (g := g)
  rw [e] at h1
  exact com_nz h (Int.natAbs_eq_zero.1 h1.symm)
theorem invD_mul : invS g * invD g = Det.detE g.length (gat g) := Int.mul_ediv_cancel' invS_det
theorem inv_gat {i j : Nat} (hi : i < g.length) (hj : j < g.length) : invS g * gat (invG g) i j = gat (adjG g) i j := by
  rw [show gat (invG g) i j = gat (adjG g) i j / invS g from tab_gat hi hj]
  exact Int.mul_ediv_cancel' (invS_adj hi hj)
theorem inv_len : (invG g).length = g.length := tab_len _ _ _
theorem inv_cols (h : 0 < g.length) : cols (invG g) = g.length := tab_cols _ h
theorem mul_invG (hs : g.length = cols g) (hp : 0 < g.length) (hd : Det.detE g.length (gat g) ≠ 0) : timesG g (invG g) = scaleG (idG g.length) (invD g) := by
  rw [scale_id]
  unfold timesG
  rw [inv_cols hp, ← hs]
  refine tab_congr fun i j hi hj => ?_
  refine Int.eq_of_mul_eq_mul_left (invS_nz hd) ?_
  rw [← isum_mulL]
  have e1 : Det.isum g.length (fun t => invS g * (gat g i t * gat (invG g) t j)) = Det.isum g.length fun t => gat g i t * gat (adjG g) t j :=
    Det.isum_congr fun t ht => by rw [← inv_gat ht hj, Int.mul_left_comm]
  have e2 : Det.isum g.length (fun t => gat g i t * gat (adjG g) t j) = Det.imul g.length (gat g) (Det.iadj g.length (gat g)) i j :=
    Det.isum_congr fun t ht => by rw [adj_gat ht hj]
  rw [e1, e2, Det.mul_iadj hi hj]
  split
  · exact invD_mul.symm
  · rw [Int.mul_zero]
theorem invD_pos (hd : Det.detE g.length (gat g) ≠ 0) : 0 < invD g := by
  have hc : 0 < (comG (Det.detE g.length (gat g)) (adjG g)).natAbs := by
    have := com_nz (a := adjG g) hd; omega
  have h1 := invD_mul (g := g)
  by_cases hn : Det.detE g.length (gat g) < 0
  · have h2 : invS g < 0 := by
      unfold invS; rw [if_pos hn]
      have hcn : adjG g ≠ [] := fun e => by
        have h0 : g.length = 0 := by rw [← adj_len g, e]; rfl
        have : Det.detE g.length (gat g) = 1 := by rw [h0]; rfl
        omega
      have h3 : 0 ≤ comG (Det.detE g.length (gat g)) (adjG g) := by
        cases h : adjG g with
        | nil => exact absurd h hcn
        | cons y a => exact com_nn a _ (Int.natCast_nonneg _)
      omega
    rcases Int.lt_trichotomy 0 (invD g) with h | h | h
    · exact h
    · rw [← h, Int.mul_zero] at h1; exact absurd h1.symm hd
    · have := Int.mul_pos_of_neg_of_neg h2 h; omega
  · have h2 : 0 < invS g := by
      unfold invS; rw [if_neg hn]
      have h3 : 0 ≤ comG (Det.detE g.length (gat g)) (adjG g) := com_nn _ _ (by omega)
      omega
    rcases Int.lt_trichotomy 0 (invD g) with h | h | h
    · exact h
    · rw [← h, Int.mul_zero] at h1; exact absurd h1.symm hd
    · have := Int.mul_neg_of_pos_of_neg h2 h; omega
end
end Go.Proofs.YtkejdmdldhlkgaaGreatDoor

/- ratio: lowest, Make, Num, Den. -/
namespace Go.Proofs.YtkejdmdldhlkgaaGreatDoor
open Num
open Go.ChangeShapes Go.WideShapes Go.ChangeAt Go.RowKit
set_option linter.unusedVariables false
set_option linter.unusedSimpArgs false
attribute [local go_sem ↓] Go.wp_at_zero Go.wp_at_succ
/-- a fraction in memory: what stands above, what stands below -/
def IsRat (w : World) (v : Value) (n d : Int) : Prop := ∃ n1 a1 l1 c1 n2 a2 l2 c2, v = .agg #[.bool n1, .slice a1 l1 c1, .bool n2, .slice a2 l2 c2] ∧ IsInt w (.agg #[.bool n1, .slice a1 l1 c1]) n ∧ IsInt w (.agg #[.bool n2, .slice a2 l2 c2]) (d - 1)
theorem IsRat.keep {w w' : World} {v : Value} {n d : Int} (h : IsRat w v n d) (k : Below w.heap.size w w') : IsRat w' v n d := by
  obtain ⟨n1, a1, l1, c1, n2, a2, l2, c2, e, h1, h2⟩ := h
  exact ⟨n1, a1, l1, c1, n2, a2, l2, c2, e, h1.keep k, h2.keep k⟩
theorem IsInt.lit {w : World} {v : Value} {z : Int} (h : IsInt w v z) : ∃ n a l c, v = .agg #[.bool n, .slice a l c] := by
  obtain ⟨n, a, c, l, rfl, -⟩ := h
  exact ⟨n, a, l.length, c, rfl⟩
theorem bd_quot {k : Nat} {d G : Int} (h : Bd k d) (hd : G ∣ d) (h0 : G ≠ 0) : Bd k (d / G) := by
  obtain ⟨q, rfl⟩ := hd
  rw [Int.mul_ediv_cancel_left _ h0]
  unfold Bd at *
  rw [Int.natAbs_mul] at h
  have h1 : 1 ≤ G.natAbs := by omega
  have h2 := Nat.mul_le_mul_right q.natAbs h1
  omega
section
variable {w : World} {g b i : Nat} {u v x : Value}
end
end Go.Proofs.YtkejdmdldhlkgaaGreatDoor

/- ratio: Make over a number above 0, Num, Den. -/
namespace Go.Proofs.YtkejdmdldhlkgaaGreatDoor
open Num
open Go.ChangeShapes Go.WideShapes Go.ChangeAt Go.RowKit
set_option linter.unusedVariables false
set_option linter.unusedSimpArgs false
attribute [local go_sem ↓] Go.wp_at_zero Go.wp_at_succ
end Go.Proofs.YtkejdmdldhlkgaaGreatDoor

/- ratio: Den. -/
namespace Go.Proofs.YtkejdmdldhlkgaaGreatDoor
open Num
open Go.ChangeShapes Go.WideShapes Go.ChangeAt Go.RowKit
set_option linter.unusedVariables false
set_option linter.unusedSimpArgs false
attribute [local go_sem ↓] Go.wp_at_zero Go.wp_at_succ
end Go.Proofs.YtkejdmdldhlkgaaGreatDoor

/- ratio: rows of fractions of the call's own, built by append. -/
namespace Go.Proofs.YtkejdmdldhlkgaaGreatDoor
open Num
open Go.ChangeShapes Go.WideShapes Go.ChangeAt Go.RowKit
set_option linter.unusedVariables false
set_option linter.unusedSimpArgs false
theorem IsRat.lim {w w' : World} {v : Value} {n d : Int} (h : IsRat w v n d) (k : Lim w w') : IsRat w' v n d := by
  obtain ⟨n1, a1, l1, c1, n2, a2, l2, c2, e, h1, h2⟩ := h
  exact ⟨n1, a1, l1, c1, n2, a2, l2, c2, e, h1.lim k, h2.lim k⟩
/-- the four cells of a fraction -/
def RatAt (w : World) (g : Nat → Option Value) (q : Int × Int) : Prop :=
  ∃ n1 a1 l1 c1 n2 a2 l2 c2, g 0 = some (.bool n1) ∧ g 1 = some (.slice a1 l1 c1) ∧ g 2 = some (.bool n2) ∧ g 3 = some (.slice a2 l2 c2) ∧ IsInt w (.agg #[.bool n1, .slice a1 l1 c1]) q.1 ∧ IsInt w (.agg #[.bool n2, .slice a2 l2 c2]) (q.2 - 1)
theorem RatAt.lim {w w' : World} {g : Nat → Option Value} {q : Int × Int} (h : RatAt w g q) (k : Lim w w') : RatAt w' g q := by
  obtain ⟨n1, a1, l1, c1, n2, a2, l2, c2, e0, e1, e2, e3, h1, h2⟩ := h
  exact ⟨n1, a1, l1, c1, n2, a2, l2, c2, e0, e1, e2, e3, h1.lim k, h2.lim k⟩
theorem RatAt.congr {w : World} {g g' : Nat → Option Value} {q : Int × Int} (h : RatAt w g q) (e : ∀ i v, i < 4 → g i = some v → g' i = some v) : RatAt w g' q := by
  obtain ⟨n1, a1, l1, c1, n2, a2, l2, c2, e0, e1, e2, e3, h1, h2⟩ := h
  exact ⟨n1, a1, l1, c1, n2, a2, l2, c2, e 0 _ (by omega) e0, e 1 _ (by omega) e1, e 2 _ (by omega) e2, e 3 _ (by omega) e3, h1, h2⟩
/-- a row of fractions in memory -/
def IsQ (w : World) (v : Value) (L : List (Int × Int)) : Prop :=
  ∃ a c, v = .slice a L.length c ∧ (L = [] ∨ ∃ b off, a = some ⟨b, off, none⟩ ∧ ∀ k (hk : k < L.length), RatAt w (fun i => w.cell? ⟨b, off + (k * 4 + i), none⟩) L[k])
theorem lim_below {w w' : World} (k : Below w.heap.size w w') : Lim w w' := (Kp.of_below (fun _ => True) k).lim trivial
theorem IsQ.keep {w w' : World} {v : Value} {L : List (Int × Int)} (h : IsQ w v L) (k : Below w.heap.size w w') : IsQ w' v L := by
  obtain ⟨a, c, e, h2⟩ := h
  refine ⟨a, c, e, h2.imp id ?_⟩
  rintro ⟨b, off, e2, h3⟩
  exact ⟨b, off, e2, fun j hj => ((h3 j hj).lim (lim_below k)).congr fun i v _ hv => bkeep k hv⟩
end Go.Proofs.YtkejdmdldhlkgaaGreatDoor

