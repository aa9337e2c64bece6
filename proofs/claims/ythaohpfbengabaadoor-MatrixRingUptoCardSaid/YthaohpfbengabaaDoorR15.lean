/- Texts of this seat, laid together: MwG, MwH, MwI, MwS, MwV. Each opens with its own remark, which says what it proves, and under which conditions. -/
import Derived.Test.YthaohpfbengabaaDoorR14
import Derived.Test.YthaohpfbengabaaDoorR10
import Derived.Test.YthaohpfbengabaaDoorR01
import Derived.Deep.DeepCutAuto
import Derived.BigQuiet
set_option linter.unusedVariables false
set_option linter.unusedSimpArgs false
/- matrix's laws: rows, made. -/
namespace Go.Proofs.YthaohpfbengabaaDoor
open Num
open Go.ChangeShapes Go.WideShapes Go.ChangeAt Go.RowKit
set_option linter.unusedVariables false
set_option linter.unusedSimpArgs false
attribute [local go_sem ↓] Go.wp_at_zero Go.wp_at_succ
set_option maxRecDepth 100000 in
set_option maxHeartbeats 4000000 in
theorem rows5_c (v : Value) (g : Grid) (w : World) (hv : GridI w v g) (hg : g.length ≤ 1048576) (hl : ∀ k, k < g.length → (g.getD k []).length ≤ 1048576) :
    Calls Tryd.prog 16 #[v] w fun e w' => (∃ u, e = .returned u ∧ OwnL 40 (RowO IsInt 33 w.heap.size) w w' u g) ∧ Below w.heap.size w w' := by
  obtain ⟨ga, gc, rfl, hv⟩ := hv
  have HV := Lib.hid hv
  have HL := Lib.hid hl
  clear hv hl
  have hB := Below.refl w.heap.size w
  go_enter Tryd.func16, Tryd.ntmps16
  go_wp2
  go_loopw [3, 8] (fun v x wr => ∃ k : Nat, k ≤ g.length ∧ x = .int .i64 k ∧ Hid (OwnL 40 (RowO IsInt 33 w.heap.size) w wr v (g.take k))) (fun _ x _ => g.length - (intOf x).toNat)
  case atStart => exact ⟨0, Nat.zero_le _, rfl, Lib.hid (OwnL.nil _ _ hB)⟩
  case round =>
    obtain ⟨k, hk, rfl, hO⟩ := hrel
    have hBr := hO.out.bel
    have hlen : (g.take k).length = k := by rw [List.length_take]; omega
    have HLEN := Lib.hid hlen
    obtain ⟨va, vc, hvv⟩ := hO.out.ex
    rw [hlen] at hvv
    subst hvv
    clear hlen
    by_cases hlt : k < g.length
    · have hltI : (k : Int) < (g.length : Int) := by omega
      obtain ⟨gb, go, u, rfl, hu, hrow⟩ := HV.out k hlt
      have hr2 := hrow.keep hBr
      obtain ⟨ra, rc, rfl, -⟩ := hrow
      have hl3 := HL.out k hlt
      have HT := Lib.hid (take_getD [] hlt)
      have hu2 := bkeep hBr hu
      obtain ⟨l, hle⟩ : ∃ l, g.getD k [] = l := ⟨_, rfl⟩
      rw [hle] at hr2 hu2 hl3 HT
      have zu := cell_lt hu2
      have lc := fun W (q : Below wr.heap.size wr W) => list_c (.slice ra l.length rc) l W (hr2.keep q) (by omega)
      have LC := Lib.hid lc
      have hLL : ((g.take k).length + 1) * 24 ≤ 140737488355328 := by rw [HLEN.out]; omega
      have hLM : (g.take k).length + 1 ≤ maxLen := by rw [HLEN.out]; unfold maxLen; omega
      have hBw := Below.refl wr.heap.size wr
      clear hu hr2 hle lc
      go_wp2_with fail
      (with_reducible refine (LC.out _ ?_).mono ?_); (repeat (first | exact Below.refl _ _ | exact hBw | refine Below.drew ?_ | refine below_drewN ?_ _ | refine bset ?_ (by simp <;> omega) _ | refine bal ?_ _))
      rintro e w5 ⟨⟨v5, rfl, hr5⟩, hb5⟩
      have hb5' : Below wr.heap.size wr w5 := bthen (by repeat (first | exact Below.refl _ _ | exact hBw | refine Below.drew ?_ | refine below_drewN ?_ _ | refine bset ?_ (by simp <;> omega) _ | refine bal ?_ _)) hb5
      have HR5 := Lib.hid (show RowO IsInt 33 w.heap.size w5 v5 l from hr5.rebase (show w.heap.size ≤ _ from Nat.le_trans hBr.size (show Below wr.heap.size wr _ by repeat (first | exact Below.refl _ _ | exact hBw | refine Below.drew ?_ | refine below_drewN ?_ _ | refine bset ?_ (by simp <;> omega) _ | refine bal ?_ _)).size))
      have HO5 := Lib.hid (hO.out.below (prs_rowO lims_int _ _) hb5')
      obtain ⟨a5, c5, rfl⟩ := hr5.ex
      clear LC hr5 hb5 hO
      go_wp2_with (at_builtin; refine appL elRow (prs_rowO lims_int _ _) (by decide) (by rfl) (by rfl) (HO5.out.below (prs_rowO lims_int _ _) (bal (Below.refl _ _) _)) (HR5.out.keep lims_int (bal (Below.refl _ _) _)) (by rfl) (by rfl) (cell_new (by simp) rfl) hLL hLM ?_)
      intro v' w8 hO8 hk8
      have HO8 := Lib.hid hO8
      rw [← HT.out] at HO8
      clear hO8 hk8
      go_wp2
      exact ⟨⟨k + 1, hlt, by go_num, HO8⟩, meas hlt (by go_num) rfl⟩
    · obtain rfl : k = g.length := by omega
      rw [List.take_length] at hO
      go_wp2
      go_ret
      exact ⟨⟨_, rfl, hO.out⟩, hBr⟩
/-- what made answers -/
def MadePost (g : Grid) (w : World) (e : Ending) (w' : World) : Prop :=
  ((g.length ≤ 64 ∧ fitsE g = 0 ∧ ∃ v, e = .returned (.tuple #[v, .bool true]) ∧ IsM 0 w' v g) ∨ (¬ (g.length ≤ 64 ∧ fitsE g = 0) ∧ e = .returned (.tuple #[.agg #[.slice none 0 0], .bool false]))) ∧ Below w.heap.size w w'
set_option maxRecDepth 100000 in
set_option maxHeartbeats 4000000 in
theorem made5_c (v : Value) (g : Grid) (w : World) (hv : GridI w v g) (hl : ∀ k, k < g.length → (g.getD k []).length ≤ 1048576) (hgI : g.length ≤ 4611686018427387904) :
    Calls Tryd.prog 8 #[v] w (MadePost g w) := by
  have HV := Lib.hid hv
  have HL := Lib.hid hl
  obtain ⟨ga, gc, rfl, -⟩ := hv
  clear hl
  have hB := Below.refl w.heap.size w
  by_cases h64 : g.length ≤ 64
  · have hI : ¬ (64 : Int) < (g.length : Int) := by omega
    have rc := Lib.hid (fun W (q : Below w.heap.size w W) => rows5_c (.slice ga g.length gc) g W (HV.out.keep q) (by omega) HL.out)
    go_enter Tryd.func8, Tryd.ntmps8
    go_wp2_with fail
    (with_reducible refine (rc.out _ ?_).mono ?_); (repeat (first | exact Below.refl _ _ | exact hB | refine Below.drew ?_ | refine below_drewN ?_ _ | refine bset ?_ (by simp <;> omega) _ | refine bal ?_ _))
    rintro e w1 ⟨⟨u1, rfl, hu1⟩, hb1⟩
    have r0 : w1.cell? ⟨w.heap.size, 0, none⟩ = some (.slice none 0 0) := bkc hb1
    have zr0 := cell_lt r0
    have r0f : w1.frozen? ⟨w.heap.size, 0, none⟩ = false := bkcf (v := .slice none 0 0) hb1
    have hB : Below w.heap.size w w1 := bthen (by repeat (first | exact Below.refl _ _ | exact hB | refine Below.drew ?_ | refine below_drewN ?_ _ | refine bset ?_ (by simp <;> omega) _ | refine bal ?_ _)) hb1
    have hz : w.heap.size ≤ w1.heap.size := hB.size
    have HU1 := Lib.hid (show IsL 40 (PRow 0) 0 w1 u1 g from (hu1.isL.mono fun u x h => h.row.rebase (Nat.zero_le _)).rebase (Nat.zero_le _))
    obtain ⟨a1, c1, rfl⟩ := hu1.ex
    have nc := Lib.hid (fun W (q : Below w1.heap.size w1 W) => newM_c (.slice a1 g.length c1) g W (HU1.out.keep (prs_prow 0) q) (fun i hi => Nat.le_trans (HL.out i hi) (by decide)))
    have hBw1 := Below.refl w1.heap.size w1
    clear rc hu1
    go_wp2_with fail
    (with_reducible refine (nc.out _ ?_).mono ?_); (repeat (first | exact Below.refl _ _ | exact hBw1 | refine Below.drew ?_ | refine below_drewN ?_ _ | refine bset ?_ (by simp <;> omega) _ | refine bal ?_ _))
    rintro e w2 ⟨(⟨hf, v2, rfl, hv2⟩ | ⟨hf, rfl⟩), hb2⟩
    ·
      have r0 : w2.cell? ⟨w.heap.size, 0, none⟩ = some (.slice none 0 0) := bkc hb2
      have zr0 := cell_lt r0
      have r0f : w2.frozen? ⟨w.heap.size, 0, none⟩ = false := bkcf (v := .slice none 0 0) hb2
      have hB : Below w.heap.size w w2 := bthen (by repeat (first | exact Below.refl _ _ | exact hB | refine Below.drew ?_ | refine below_drewN ?_ _ | refine bset ?_ (by simp <;> omega) _ | refine bal ?_ _)) hb2
      have hz : w.heap.size ≤ w2.heap.size := hB.size
      have HV2 := Lib.hid (hv2.rebase (Nat.zero_le _))
      obtain ⟨a2, c2, rfl⟩ := hv2.lit
      have HF := Lib.hid hf
      clear nc hv2 hf
      have HT := Lib.hid (show typOf w1 w.heap.size = some 27 from typ_keep (typ_fresh rfl) hb1)
      have HT2 := typ_keep (typ_keep HT.out (show Below w1.heap.size w1 _ by repeat (first | exact Below.refl _ _ | exact hBw1 | refine Below.drew ?_ | refine below_drewN ?_ _ | refine bset ?_ (by simp <;> omega) _ | refine bal ?_ _))) hb2
      go_wp2
      refine bodyPost_ret (v := .tuple #[.agg #[.slice a2 g.length c2], .bool true]) (by simp [results, Tryd.results8, go_sem, *]) rfl ⟨.inl ⟨h64, HF.out, _, rfl, ?_⟩, ?_⟩
      · first | exact HV2.out.setM HT2 _ | exact (HV2.out.setM HT2 _).keep (bal (Below.refl _ _) _) | exact (HV2.out.keep (bal (Below.refl _ _) _)).setM (typ_keep HT2 (bal (Below.refl _ _) _)) _
      ·
        repeat (first | exact Below.refl _ _ | exact hB | refine Below.drew ?_ | refine below_drewN ?_ _ | refine bset ?_ (by simp <;> omega) _ | refine bal ?_ _)
    ·
      have r0 : w2.cell? ⟨w.heap.size, 0, none⟩ = some (.slice none 0 0) := bkc hb2
      have zr0 := cell_lt r0
      have r0f : w2.frozen? ⟨w.heap.size, 0, none⟩ = false := bkcf (v := .slice none 0 0) hb2
      have hB : Below w.heap.size w w2 := bthen (by repeat (first | exact Below.refl _ _ | exact hB | refine Below.drew ?_ | refine below_drewN ?_ _ | refine bset ?_ (by simp <;> omega) _ | refine bal ?_ _)) hb2
      have hz : w.heap.size ≤ w2.heap.size := hB.size
      have hne : (fitsE g == 0) = false := by simpa using hf
      have HNO := Lib.hid (show ¬ (g.length ≤ 64 ∧ fitsE g = 0) from fun h => hf h.2)
      clear nc hf
      go_wp2
      refine bodyPost_ret (v := .tuple #[.agg #[.slice none 0 0], .bool false]) (by simp [results, Tryd.results8, go_sem, *]) rfl ⟨.inr ⟨HNO.out, rfl⟩, ?_⟩
      repeat (first | exact Below.refl _ _ | exact hB | refine Below.drew ?_ | refine below_drewN ?_ _ | refine bset ?_ (by simp <;> omega) _ | refine bal ?_ _)
  · have hI : (64 : Int) < (g.length : Int) := by omega
    have HNO := Lib.hid (show ¬ (g.length ≤ 64 ∧ fitsE g = 0) from fun h => h64 h.1)
    clear h64
    go_enter Tryd.func8, Tryd.ntmps8
    go_wp2
    refine bodyPost_ret (v := .tuple #[.agg #[.slice none 0 0], .bool false]) (by simp [results, Tryd.results8, go_sem, *]) rfl ⟨.inr ⟨HNO.out, rfl⟩, ?_⟩
    repeat (first | exact Below.refl _ _ | exact hB | refine Below.drew ?_ | refine below_drewN ?_ _ | refine bset ?_ (by simp <;> omega) _ | refine bal ?_ _)
end Go.Proofs.YthaohpfbengabaaDoor

/- row: Cmp, Same; matrix: Same. -/
namespace Go.Proofs.YthaohpfbengabaaDoor
open Num
open Go.ChangeShapes Go.WideShapes Go.ChangeAt Go.RowKit
set_option linter.unusedVariables false
set_option linter.unusedSimpArgs false
attribute [local go_sem ↓] Go.wp_at_zero Go.wp_at_succ
theorem list_ext {α : Type} {a b : List α} {d : α} (h : a.length = b.length) (he : ∀ t, t < a.length → a.getD t d = b.getD t d) : a = b := by
  apply List.ext_getElem h
  intro i h1 h2
  have := he i h1
  simpa [h1, h2] using this
/-- a comparison of rows -/
def CmpOk (c : Int) (a b : List Int) : Prop := c = 0 ↔ a = b
theorem cmpI_zero {x y : Int} : cmpI x y = 0 ↔ x = y := by
  unfold cmpI
  split
  · constructor
    · intro h; cases h
    · intro h; omega
  · split
    · simp [*]
    · constructor
      · intro h; cases h
      · intro h; contradiction
set_option maxRecDepth 100000 in
set_option maxHeartbeats 8000000 in
theorem rowCmp_c (va vb : Value) (la lb : List Int) (w : World) (ha : PRow 0 w va la) (hb : PRow 0 w vb lb) (hla : la.length ≤ 1099511627775) (hlb : lb.length ≤ 1099511627775) :
    Calls Tryd.prog 76 #[va, vb] w fun e w' => (∃ c : Int, e = .returned (.int .i64 c) ∧ CmpOk c la lb) ∧ Below w.heap.size w w' := by
  have HA := Lib.hid ha
  have HBB := Lib.hid hb
  obtain ⟨aa, ca, rfl, -⟩ := ha
  obtain ⟨ab, cb, rfl, -⟩ := hb
  have hB := Below.refl w.heap.size w
  rcases Nat.lt_trichotomy la.length lb.length with hl | hl | hl
  · have hI : (la.length : Int) < (lb.length : Int) := by omega
    have HNE := Lib.hid (show CmpOk (-1) la lb from Iff.intro (fun h => absurd h (by decide)) (fun h => absurd hl (by rw [h]; exact Nat.lt_irrefl _)))
    go_enter Tryd.func76, Tryd.ntmps76
    go_wp2
    go_ret
    exact ⟨⟨_, rfl, HNE.out⟩, by repeat (first | exact Below.refl _ _ | exact hB | refine Below.drew ?_ | refine below_drewN ?_ _ | refine bset ?_ (by simp <;> omega) _ | refine bal ?_ _)⟩
  · have HLE := Lib.hid hl
    obtain ⟨n, hn⟩ : ∃ n, la.length = n := ⟨_, rfl⟩
    have hn2 : lb.length = n := by rw [← hl]; exact hn
    have HN := Lib.hid (And.intro hn hn2)
    rw [hn] at hla ⊢
    rw [hn2]
    clear hl hn hn2 hlb
    have hI1 : ¬ (n : Int) < (n : Int) := by omega
    go_enter Tryd.func76, Tryd.ntmps76
    go_wp2
    go_loopw [22] (fun x wr => ∃ j : Nat, j ≤ n ∧ x = .int .i64 j ∧ Below w.heap.size w wr ∧ Hid (∀ t, t < j → la.getD t 0 = lb.getD t 0)) (fun x _ => n - (intOf x).toNat)
    case atStart => exact ⟨0, Nat.zero_le _, rfl, hB, Lib.hid (fun t ht => by omega)⟩
    case round =>
      obtain ⟨j, hj, rfl, hBr, hE⟩ := hrel
      by_cases hlt : j < n
      · have hltI : (j : Int) < (n : Int) := by omega
        obtain ⟨a', c', he, -, vr⟩ := (HA.out.keep lims_int hBr).view
        obtain ⟨rfl, -, rfl⟩ := Value.slice.inj he
        obtain ⟨b', d', he2, -, vs⟩ := (HBB.out.keep lims_int hBr).view
        obtain ⟨rfl, -, rfl⟩ := Value.slice.inj he2
        obtain ⟨rb, ro, n3, a3, l3, c3, rfl, r0, r1, hi⟩ := vr j (by rw [HN.out.1]; exact hlt)
        obtain ⟨sb, so, n4, a4, l4, c4, rfl, s0, s1, hi2⟩ := vs j (by rw [HN.out.2]; exact hlt)
        have HI := Lib.hid (And.intro hi hi2)
        have kc := fun W (q : Below wr.heap.size wr W) => cmp_c _ _ (la.getD j 0) (lb.getD j 0) W (HI.out.1.keep q) (HI.out.2.keep q)
        obtain ⟨c, hc⟩ : ∃ c, cmpI (la.getD j 0) (lb.getD j 0) = c := ⟨_, rfl⟩
        have HC := Lib.hid hc
        rw [hc] at kc
        have KC := Lib.hid kc
        have zr := cell_lt r0
        have zs := cell_lt s0
        clear hc kc hi hi2 vr vs he he2
        have hBw := Below.refl wr.heap.size wr
        go_wp2
        refine wp_name fun w3 hW3 => ?_
        have hb3 : Below wr.heap.size wr w3 := by rw [hW3]; repeat (first | exact Below.refl _ _ | exact hBw | refine Below.drew ?_ | refine below_drewN ?_ _ | refine bset ?_ (by simp <;> omega) _ | refine bal ?_ _)
        obtain ⟨x0, x1⟩ : w3.cell? ⟨wr.heap.size, 0, none⟩ = some (.bool n3) ∧ w3.cell? ⟨wr.heap.size, 1, none⟩ = some (.slice a3 l3 c3) := by rw [hW3]; simp [go_sem]
        replace s0 := bkeep hb3 s0
        replace s1 := bkeep hb3 s1
        clear hW3 r0 r1
        have zx := cell_lt x0
        replace zs := cell_lt s0
        have HS := Lib.hid (show ∀ W, Below w3.heap.size w3 W → W.cell? ⟨wr.heap.size, 0, none⟩ = some (.bool n3) ∧ W.cell? ⟨wr.heap.size, 1, none⟩ = some (.slice a3 l3 c3) ∧ W.cell? ⟨sb, so + j * 2, none⟩ = some (.bool n4) ∧ W.cell? ⟨sb, so + j * 2 + 1, none⟩ = some (.slice a4 l4 c4) from fun W q => ⟨bkeep q x0, bkeep q x1, bkeep q s0, bkeep q s1⟩)
        have hBx := Below.refl w3.heap.size w3
        go_region_held3 (fun W => W.cell? ⟨wr.heap.size, 0, none⟩ = some (.bool n3) ∧ W.cell? ⟨wr.heap.size, 1, none⟩ = some (.slice a3 l3 c3) ∧ W.cell? ⟨sb, so + j * 2, none⟩ = some (.bool n4) ∧ W.cell? ⟨sb, so + j * 2 + 1, none⟩ = some (.slice a4 l4 c4))
          (first | (refine HS.out _ ?_; (repeat (first | exact Below.refl _ _ | exact hBx | refine Below.drew ?_ | refine below_drewN ?_ _ | refine bset ?_ (by simp <;> omega) _ | refine bal ?_ _)); done) | fail)
          (first
          | (go_at_call 13; (with_reducible refine (KC.out _ ?_).mono ?_); (refine bthen hb3 ?_; (repeat (first | exact Below.refl _ _ | exact hBx | refine Below.drew ?_ | refine below_drewN ?_ _ | refine bset ?_ (by simp <;> omega) _ | refine bal ?_ _))); rintro e w5 ⟨rfl, hb5⟩; (have hBd : Below w3.heap.size w3 w5 := bthen (by repeat (first | exact Below.refl _ _ | exact hBx | refine Below.drew ?_ | refine below_drewN ?_ _ | refine bset ?_ (by simp <;> omega) _ | refine bal ?_ _)) hb5; clear hBx; have hBx := hBd; clear hBd))
          | fail)
        all_goals
          have hB5 := bthen hBr (bthen hb3 hBx)
          by_cases hc0 : c = 0
          · have hcI : (c != 0) = false := by simp [hc0]
            have HE2 := Lib.hid (show ∀ t, t < j + 1 → la.getD t 0 = lb.getD t 0 from fun t ht => by
              by_cases e : t = j
              · subst e; exact cmpI_zero.1 (by rw [HC.out]; exact hc0)
              · exact hE.out t (by omega))
            clear hc0 x0 x1 s0 s1 HS
            go_wp2
            exact ⟨⟨j + 1, hlt, by go_num, hB5, HE2⟩, meas hlt (by go_num) rfl⟩
          · have hcI : (c != 0) = true := by simp [hc0]
            have HNE := Lib.hid (show CmpOk c la lb from ⟨fun h => absurd h hc0, fun h => by rw [← HC.out, h]; exact cmpI_zero.2 rfl⟩)
            clear hc0 x0 x1 s0 s1 HS
            go_wp2
            go_ret
            exact ⟨⟨_, rfl, HNE.out⟩, hB5⟩
      · obtain rfl : j = n := by omega
        have HEQ := Lib.hid (show CmpOk 0 la lb from ⟨fun _ => list_ext (d := 0) HLE.out (fun t ht => hE.out t (by rw [← HN.out.1]; exact ht)), fun _ => rfl⟩)
        go_wp2
        go_ret
        exact ⟨⟨_, rfl, HEQ.out⟩, hBr⟩
  · have hI : (lb.length : Int) < (la.length : Int) := by omega
    have hI2 : ¬ (la.length : Int) < (lb.length : Int) := by omega
    have HNE := Lib.hid (show CmpOk 1 la lb from Iff.intro (fun h => absurd h (by decide)) (fun h => absurd hl (by rw [h]; exact Nat.lt_irrefl _)))
    go_enter Tryd.func76, Tryd.ntmps76
    go_wp2
    go_ret
    exact ⟨⟨_, rfl, HNE.out⟩, by repeat (first | exact Below.refl _ _ | exact hB | refine Below.drew ?_ | refine below_drewN ?_ _ | refine bset ?_ (by simp <;> omega) _ | refine bal ?_ _)⟩
set_option maxRecDepth 100000 in
set_option maxHeartbeats 2000000 in
theorem rowSame_c (va vb : Value) (la lb : List Int) (w : World) (ha : PRow 0 w va la) (hb : PRow 0 w vb lb) (hla : la.length ≤ 1099511627775) (hlb : lb.length ≤ 1099511627775) :
    Calls Tryd.prog 50 #[va, vb] w fun e w' => e = .returned (.bool (decide (la = lb))) ∧ Below w.heap.size w w' := by
  have kc := Lib.hid (fun W (q : Below w.heap.size w W) => rowCmp_c va vb la lb W (ha.keep lims_int q) (hb.keep lims_int q) hla hlb)
  obtain ⟨aa, ca, rfl, -⟩ := ha
  obtain ⟨ab, cb, rfl, -⟩ := hb
  have hB := Below.refl w.heap.size w
  obtain ⟨q, hq⟩ : ∃ q, decide (la = lb) = q := ⟨_, rfl⟩
  have HQ := Lib.hid hq
  rw [hq]
  clear hq
  go_enter Tryd.func50, Tryd.ntmps50
  go_wp2_with fail
  (with_reducible refine (kc.out _ ?_).mono ?_); (repeat (first | exact Below.refl _ _ | exact hB | refine Below.drew ?_ | refine below_drewN ?_ _ | refine bset ?_ (by simp <;> omega) _ | refine bal ?_ _))
  rintro e w1 ⟨⟨c, rfl, hc⟩, hb1⟩
  have hB1 : Below w.heap.size w w1 := bthen (by repeat (first | exact Below.refl _ _ | exact hB | refine Below.drew ?_ | refine below_drewN ?_ _ | refine bset ?_ (by simp <;> omega) _ | refine bal ?_ _)) hb1
  have hcq : (c == 0) = q := by
    rw [← HQ.out]
    by_cases h : c = 0
    · simp [h, hc.1 h]
    · have : ¬ la = lb := fun e => h (hc.2 e)
      simp [h, this]
  clear kc hc
  go_wp2
  go_ret
  exact ⟨rfl, hB1⟩
end Go.Proofs.YthaohpfbengabaaDoor

/- matrix: Same. -/
namespace Go.Proofs.YthaohpfbengabaaDoor
open Num
open Go.ChangeShapes Go.WideShapes Go.ChangeAt Go.RowKit
set_option linter.unusedVariables false
set_option linter.unusedSimpArgs false
attribute [local go_sem ↓] Go.wp_at_zero Go.wp_at_succ
set_option maxRecDepth 100000 in
set_option maxHeartbeats 8000000 in
theorem eqFunc_c (va vb : Value) (g h : Grid) (w : World) (ha : IsL 40 (PRow 0) 0 w va g) (hb : IsL 40 (PRow 0) 0 w vb h) (hgl : g.length ≤ 65536) (hg : ∀ i, i < g.length → (g.getD i []).length ≤ 1099511627775) (hh : ∀ i, i < h.length → (h.getD i []).length ≤ 1099511627775) :
    Calls Tryd.prog 49 #[va, vb, .func (.func 50) #[] #[]] w fun e w' => e = .returned (.bool (decide (g = h))) ∧ Below w.heap.size w w' := by
  have HA := Lib.hid ha
  have HBB := Lib.hid hb
  have HG := Lib.hid (And.intro hg hh)
  obtain ⟨aa, ca, rfl, -⟩ : ∃ a c, va = .slice a g.length c ∧ True := by obtain ⟨a, c, e, _⟩ := ha.view; exact ⟨a, c, e, trivial⟩
  obtain ⟨ab, cb, rfl, -⟩ : ∃ a c, vb = .slice a h.length c ∧ True := by obtain ⟨a, c, e, _⟩ := hb.view; exact ⟨a, c, e, trivial⟩
  clear ha hb hg hh
  obtain ⟨q, hq⟩ : ∃ q, decide (g = h) = q := ⟨_, rfl⟩
  have HQ := Lib.hid hq
  rw [hq]
  clear hq
  have hB := Below.refl w.heap.size w
  by_cases hl : g.length = h.length
  · obtain ⟨n, hn⟩ : ∃ n, g.length = n := ⟨_, rfl⟩
    have hn2 : h.length = n := by rw [← hl]; exact hn
    have HN := Lib.hid (And.intro hn hn2)
    rw [hn] at hgl ⊢
    rw [hn2]
    clear hl hn hn2
    have hnn : ((n : Int) != (n : Int)) = false := by simp
    go_enter Tryd.func49, Tryd.ntmps49
    go_wp2
    go_loopw [17] (fun x wr => ∃ j : Nat, j ≤ n ∧ x = .int .i64 j ∧ Below w.heap.size w wr ∧ Hid (∀ t, t < j → g.getD t [] = h.getD t [])) (fun x _ => n - (intOf x).toNat)
    case atStart => exact ⟨0, Nat.zero_le _, rfl, hB, Lib.hid (fun t ht => by omega)⟩
    case round =>
      obtain ⟨j, hj, rfl, hBr, hE⟩ := hrel
      by_cases hlt : j < n
      · have hltI : (j : Int) < (n : Int) := by omega
        obtain ⟨c1, gb1, go1, ra1, rc1, e1, hu1, hp1⟩ := (HA.out.keep (prs_prow 0) hBr).row (i := j) (by rw [HN.out.1]; exact hlt)
        obtain ⟨rfl, -, rfl⟩ := Value.slice.inj e1
        obtain ⟨c2, gb2, go2, ra2, rc2, e2, hu2, hp2⟩ := (HBB.out.keep (prs_prow 0) hBr).row (i := j) (by rw [HN.out.2]; exact hlt)
        obtain ⟨rfl, -, rfl⟩ := Value.slice.inj e2
        have b1 := HG.out.1 j (by rw [HN.out.1]; exact hlt)
        have b2 := HG.out.2 j (by rw [HN.out.2]; exact hlt)
        obtain ⟨l1, hl1⟩ : ∃ l, g.getD j [] = l := ⟨_, rfl⟩
        obtain ⟨l2, hl2⟩ : ∃ l, h.getD j [] = l := ⟨_, rfl⟩
        rw [hl1] at hu1 hp1 b1
        rw [hl2] at hu2 hp2 b2
        have HL := Lib.hid (And.intro hl1 hl2)
        have KC := Lib.hid (fun W (q : Below wr.heap.size wr W) => rowSame_c (.slice ra1 l1.length rc1) (.slice ra2 l2.length rc2) l1 l2 W (hp1.keep lims_int q) (hp2.keep lims_int q) b1 b2)
        have z1 := cell_lt hu1
        have z2 := cell_lt hu2
        have hBw := Below.refl wr.heap.size wr
        clear e1 e2 hp1 hp2 b1 b2 hl1 hl2
        obtain ⟨p, hp⟩ : ∃ p, decide (l1 = l2) = p := ⟨_, rfl⟩
        have HP := Lib.hid hp
        rw [hp] at KC
        clear hp
        go_wp2_with fail
        (with_reducible refine (KC.out _ ?_).mono ?_); (repeat (first | exact Below.refl _ _ | exact hBw | refine Below.drew ?_ | refine below_drewN ?_ _ | refine bset ?_ (by simp <;> omega) _ | refine bal ?_ _))
        rintro e w5 ⟨rfl, hb5⟩
        have hB5 := bthen hBr (bthen (show Below wr.heap.size wr _ by repeat (first | exact Below.refl _ _ | exact hBw | refine Below.drew ?_ | refine below_drewN ?_ _ | refine bset ?_ (by simp <;> omega) _ | refine bal ?_ _)) hb5)
        clear KC hu1 hu2
        cases p with
        | true =>
          have HE2 := Lib.hid (show ∀ t, t < j + 1 → g.getD t [] = h.getD t [] from fun t ht => by
            by_cases e : t = j
            · subst e; rw [HL.out.1, HL.out.2]; exact of_decide_eq_true HP.out
            · exact hE.out t (by omega))
          go_wp2
          exact ⟨⟨j + 1, hlt, by go_num, hB5, HE2⟩, meas hlt (by go_num) rfl⟩
        | false =>
          have HNE := Lib.hid (show q = false from by
            rw [← HQ.out]
            exact decide_eq_false fun e => (of_decide_eq_false HP.out) (by rw [← HL.out.1, ← HL.out.2, e]))
          go_wp2
          go_ret
          exact ⟨by rw [HNE.out]; rfl, hB5⟩
      · obtain rfl : j = n := by omega
        have HEQ := Lib.hid (show q = true from by
          rw [← HQ.out]
          exact decide_eq_true (list_ext (d := []) (by rw [HN.out.1, HN.out.2]) (fun t ht => hE.out t (by rw [← HN.out.1]; exact ht))))
        go_wp2
        go_ret
        exact ⟨by rw [HEQ.out]; rfl, hBr⟩
  · have hnI : ((g.length : Int) != (h.length : Int)) = true := by simp; omega
    have HNE := Lib.hid (show q = false from by rw [← HQ.out]; exact decide_eq_false fun e => hl (by rw [e]))
    go_enter Tryd.func49, Tryd.ntmps49
    go_wp2
    go_ret
    exact ⟨by rw [HNE.out]; rfl, by repeat (first | exact Below.refl _ _ | exact hB | refine Below.drew ?_ | refine below_drewN ?_ _ | refine bset ?_ (by simp <;> omega) _ | refine bal ?_ _)⟩
set_option maxRecDepth 100000 in
set_option maxHeartbeats 2000000 in
theorem sameM_c (va vb : Value) (g h : Grid) (w : World) (ha : IsM 0 w va g) (hb : IsM 0 w vb h) (hgl : g.length ≤ 65536) (hg : ∀ i, i < g.length → (g.getD i []).length ≤ 1099511627775) (hh : ∀ i, i < h.length → (h.getD i []).length ≤ 1099511627775) :
    Calls Tryd.prog 24 #[va, vb] w fun e w' => e = .returned (.bool (decide (g = h))) ∧ Below w.heap.size w w' := by
  obtain ⟨aa, ca, rfl, la⟩ := ha
  obtain ⟨ab, cb, rfl, lb⟩ := hb
  have EC := Lib.hid (fun W (q : Below w.heap.size w W) => eqFunc_c (.slice aa g.length ca) (.slice ab h.length cb) g h W (la.keep (prs_prow 0) q) (lb.keep (prs_prow 0) q) hgl hg hh)
  clear la lb hg hh hgl
  obtain ⟨q, hq⟩ : ∃ q, decide (g = h) = q := ⟨_, rfl⟩
  rw [hq] at EC ⊢
  clear hq
  have hB := Below.refl w.heap.size w
  go_enter Tryd.func24, Tryd.ntmps24
  go_wp2_with fail
  (with_reducible refine (EC.out _ ?_).mono ?_); (repeat (first | exact Below.refl _ _ | exact hB | refine Below.drew ?_ | refine below_drewN ?_ _ | refine bset ?_ (by simp <;> omega) _ | refine bal ?_ _))
  rintro e w1 ⟨rfl, hb1⟩
  have hB1 : Below w.heap.size w w1 := bthen (by repeat (first | exact Below.refl _ _ | exact hB | refine Below.drew ?_ | refine below_drewN ?_ _ | refine bset ?_ (by simp <;> omega) _ | refine bal ?_ _)) hb1
  clear EC
  go_wp2
  go_ret
  exact ⟨rfl, hB1⟩
end Go.Proofs.YthaohpfbengabaaDoor

/- matrices that New makes: what is done to them, in one form. -/
namespace Go.Proofs.YthaohpfbengabaaDoor
open Num
open Go.ChangeShapes Go.WideShapes Go.ChangeAt Go.RowKit
set_option linter.unusedVariables false
set_option linter.unusedSimpArgs false
theorem fits_yes2 {g : Grid} (h : fitsE g = 0) : (0 < g.length ∧ 0 < cols g ∧ g.length ≤ 16 ∧ cols g ≤ 16) ∧ Rct g (cols g) := by
  unfold fitsE at h
  split at h
  · cases h
  · split at h
    · cases h
    · split at h
      · refine ⟨⟨by omega, by omega, by omega, by omega⟩, fun i hi => ?_⟩
        rename_i h3
        exact h3 i hi
      · cases h
theorem i64_bd2 {w : World} {v : Value} {l : List Int} (h : RowI w v l) : ∀ j, Bd 64 (l.getD j 0) := fun j => by
  obtain ⟨a, c, -, h⟩ := h
  by_cases hj : j < l.length
  · obtain ⟨b, off, -, -, h5⟩ := h j hj
    unfold I64 at h5; unfold Bd; omega
  · rw [List.getD_eq_getElem?_getD, List.getElem?_eq_none (by omega)]; exact bd_zero
theorem i64_bdM2 {w : World} {v : Value} {g : Grid} (h : GridI w v g) : BdM 64 g := fun i j => by
  obtain ⟨a, c, -, h⟩ := h
  by_cases hi : i < g.length
  · obtain ⟨b, off, u, -, -, hr⟩ := h i hi
    exact i64_bd2 hr j
  · unfold gat
    rw [List.getD_eq_getElem?_getD (l := g), List.getElem?_eq_none (by omega)]
    simp [bd_zero]
/-- a matrix in memory, of sixteen rows and columns at most -/
structure Mt (k : Nat) (g : Grid) (v : Value) (w : World) : Prop where
  m : IsM 0 w v g
  rc : Rct g (cols g)
  sz : 0 < g.length ∧ 0 < cols g ∧ g.length ≤ 16 ∧ cols g ≤ 16
  bd : BdM k g
theorem Mt.keep {k : Nat} {g : Grid} {v : Value} {w w' : World} (h : Mt k g v w) (b : Below w.heap.size w w') : Mt k g v w' := ⟨h.m.keep b, h.rc, h.sz, h.bd⟩
theorem Mt.mono {k m : Nat} {g : Grid} {v : Value} {w : World} (h : Mt k g v w) (hk : k ≤ m) : Mt m g v w := ⟨h.m, h.rc, h.sz, h.bd.mono hk⟩
theorem Mt.al {k : Nat} {g : Grid} {v : Value} {w : World} (h : Mt k g v w) (o : Obj) : Mt k g v (w.alloc o) := h.keep (bal (Below.refl _ _) _)
theorem Mt.dr {k : Nat} {g : Grid} {v : Value} {w : World} (h : Mt k g v w) : Mt k g v w.drew := h.keep (Below.refl _ _).drew
theorem Mt.setM {k : Nat} {g : Grid} {v : Value} {w : World} (h : Mt k g v w) {p : Addr} (ht : typOf w p.block = some 27) (u : Value) : Mt k g v (w.setCell p u) := ⟨h.m.setM ht u, h.rc, h.sz, h.bd⟩
theorem Mt.times {k m n : Nat} {g h : Grid} {v u : Value} {w : World} (h1 : Mt k g v w) (h2 : Mt m h u w) (e : cols g = h.length) (hk : k + m + 16 ≤ 17179869184) (hn : g.length = n) :
    Calls Tryd.prog 19 #[v, u] w fun e w' => (∃ a c, e = .returned (.tuple #[.agg #[.slice a n c], .int .i64 0]) ∧ Mt (k + m + 16) (timesG g h) (.agg #[.slice a n c]) w') ∧ Below w.heap.size w w' := by
  have s1 := h1.sz
  have s2 := h2.sz
  refine (timesM_c v u g h k m w h1.m h2.m h1.rc h2.rc h1.bd h2.bd (by omega) (by omega) (by omega) (by omega)).mono ?_
  rintro ee w' ⟨ho, hb⟩
  refine ⟨?_, hb⟩
  rcases ho with ⟨-, x, rfl, hx⟩ | ⟨no, -⟩
  · have hx := hx.rebase (Nat.zero_le _)
    obtain ⟨a, c, rfl⟩ := hx.lit
    rw [times_len, hn] at hx ⊢
    exact ⟨a, c, rfl, hx, by rw [times_cols (by omega)]; exact times_rct g h, ⟨by rw [times_len]; omega, by rw [times_cols (by omega)]; omega, by rw [times_len]; omega, by rw [times_cols (by omega)]; omega⟩, (show BdM (k + m + cols g) (timesG g h) from tab_bd fun i j _ _ => isum_bd (fun t => (h1.bd i t).mul (h2.bd t j)) _).mono (by omega)⟩
  · exact absurd ⟨e, by omega⟩ no
theorem Mt.plus {k n : Nat} {g h : Grid} {v u : Value} {w : World} (h1 : Mt k g v w) (h2 : Mt k h u w) (e : g.length = h.length) (e2 : cols g = cols h) (hk : k ≤ 17179869184) (hn : g.length = n) :
    Calls Tryd.prog 25 #[v, u] w fun e w' => (∃ a c, e = .returned (.tuple #[.agg #[.slice a n c], .int .i64 0]) ∧ Mt (k + 1) (plusG g h) (.agg #[.slice a n c]) w') ∧ Below w.heap.size w w' := by
  have s1 := h1.sz
  refine (plusM_c v u g h k w h1.m h2.m h1.rc h2.rc h1.bd h2.bd hk (by omega) (by omega)).mono ?_
  rintro ee w' ⟨ho, hb⟩
  refine ⟨?_, hb⟩
  rcases ho with ⟨-, x, rfl, hx⟩ | ⟨no, -⟩
  · have hx := hx.rebase (Nat.zero_le _)
    obtain ⟨a, c, rfl⟩ := hx.lit
    rw [plus_len, hn] at hx ⊢
    exact ⟨a, c, rfl, hx, by rw [plus_cols (by omega)]; exact tab_rect _ _ _, ⟨by rw [plus_len]; omega, by rw [plus_cols (by omega)]; omega, by rw [plus_len]; omega, by rw [plus_cols (by omega)]; omega⟩, tab_bd fun i j _ _ => (h1.bd i j).add (h2.bd i j)⟩
  · exact absurd ⟨e, e2⟩ no
theorem Mt.turn {k n : Nat} {g : Grid} {v : Value} {w : World} (h1 : Mt k g v w) (hn : cols g = n) :
    Calls Tryd.prog 12 #[v] w fun e w' => (∃ a c, e = .returned (.agg #[.slice a n c]) ∧ Mt k (turnG g) (.agg #[.slice a n c]) w') ∧ Below w.heap.size w w' := by
  have s1 := h1.sz
  refine (turnM_c v g w h1.m h1.rc (by omega) (by omega)).mono ?_
  rintro ee w' ⟨⟨x, rfl, hx⟩, hb⟩
  refine ⟨?_, hb⟩
  have hx := hx.rebase (Nat.zero_le _)
  obtain ⟨a, c, rfl⟩ := hx.lit
  have e : cols (turnG g) = g.length := turn_cols (by omega)
  rw [turn_len, hn] at hx ⊢
  exact ⟨a, c, rfl, hx, by rw [e]; exact tab_rect _ _ _, ⟨by rw [turn_len]; omega, by rw [e]; omega, by rw [turn_len]; omega, by rw [e]; omega⟩, tab_bd fun i j _ _ => h1.bd j i⟩
theorem Mt.scale {k m n : Nat} {g : Grid} {c : Int} {v u : Value} {w : World} (h1 : Mt k g v w) (hu : IsInt w u c) (hc : Bd m c) (hk : k ≤ 17179869184) (hm : m ≤ 17179869184) (hn : g.length = n) :
    Calls Tryd.prog 26 #[v, u] w fun e w' => (∃ a c', e = .returned (.agg #[.slice a n c']) ∧ Mt (k + m) (scaleG g c) (.agg #[.slice a n c']) w') ∧ Below w.heap.size w w' := by
  have s1 := h1.sz
  refine (scaleM_c v u g c k m w h1.m hu h1.rc h1.bd hc hk hm (by omega) (by omega)).mono ?_
  rintro ee w' ⟨⟨x, rfl, hx⟩, hb⟩
  refine ⟨?_, hb⟩
  have hx := hx.rebase (Nat.zero_le _)
  obtain ⟨a, c', rfl⟩ := hx.lit
  have e : cols (scaleG g c) = cols g := tab_cols _ (by omega)
  have e2 : (scaleG g c).length = g.length := tab_len _ _ _
  rw [e2, hn] at hx ⊢
  exact ⟨a, c', rfl, hx, by rw [e]; exact tab_rect _ _ _, ⟨by rw [e2]; omega, by rw [e]; omega, by rw [e2]; omega, by rw [e]; omega⟩, tab_bd fun i j _ _ => (h1.bd i j).mul hc⟩
theorem Mt.same {k m : Nat} {g h : Grid} {v u : Value} {w : World} (h1 : Mt k g v w) (h2 : Mt m h u w) (e : g = h) :
    Calls Tryd.prog 24 #[v, u] w fun e w' => e = .returned (.bool true) ∧ Below w.heap.size w w' := by
  have s1 := h1.sz
  have s2 := h2.sz
  subst e
  have h := sameM_c v u g g w h1.m h2.m (by omega) (fun i hi => by rw [h1.rc i hi]; omega) (fun i hi => by rw [h2.rc i hi]; omega)
  rw [show decide (g = g) = true by simp] at h
  exact h
theorem Mt.colsC {k n : Nat} {g : Grid} {v : Value} {w : World} (h1 : Mt k g v w) (hn : cols g = n) :
    Calls Tryd.prog 10 #[v] w fun e w' => e = .returned (.int .i64 (n : Nat)) ∧ Below w.heap.size w w' := by
  obtain ⟨a, c, rfl, hl⟩ := h1.m
  rw [← hn]
  exact colsM_c a c g w hl
theorem colsI {n : Nat} {g : Grid} {v : Value} {w : World} (h1 : IsM 0 w v g) (hn : cols g = n) :
    Calls Tryd.prog 10 #[v] w fun e w' => e = .returned (.int .i64 (n : Nat)) ∧ Below w.heap.size w w' := by
  obtain ⟨a, c, rfl, hl⟩ := h1
  rw [← hn]
  exact colsM_c a c g w hl
theorem prow_keep {base : Nat} {w w' : World} {v : Value} {l : List Int} (h : PRow base w v l) (k : Below w.heap.size w w') : PRow base w' v l := IsRow.keep lims_int h k
theorem cmpI_self (x : Int) : cmpI x x = 0 := by unfold cmpI; rw [if_neg (by omega), if_pos rfl]
theorem cmp_same {vx vy : Value} {x : Int} {w : World} (hx : IsInt w vx x) (hy : IsInt w vy x) : Calls Tryd.prog 13 #[vx, vy] w fun e w' => e = .returned (.int .i64 0) ∧ Below w.heap.size w w' := by
  have h := cmp_c vx vy x x w hx hy
  rw [cmpI_self] at h
  exact h
theorem app_bd2 {g : Grid} {l : List Int} {k m : Nat} (rg : Rct g (cols g)) (hl : l.length = cols g) (h1 : BdM k g) (h2 : ∀ j, Bd m (l.getD j 0)) : ∀ j, Bd (k + m + cols g) ((applyG g l).getD j 0) := fun j => by
  by_cases hj : j < g.length
  · rw [app_at rg hl hj]
    exact isum_bd (fun t => (h1 j t).mul (h2 t)) _
  · rw [List.getD_eq_getElem?_getD, List.getElem?_eq_none (by rw [app_len]; omega)]; exact bd_zero
theorem Mt.apply {k m n : Nat} {g : Grid} {l : List Int} {v u : Value} {w : World} (h1 : Mt k g v w) (hu : PRow 0 w u l) (hl : l.length = cols g) (bl : ∀ j, Bd m (l.getD j 0)) (hk : k + m + 16 ≤ 17179869184) (hn : g.length = n) :
    Calls Tryd.prog 28 #[v, u] w fun e w' => (∃ a c, e = .returned (.tuple #[.slice a n c, .int .i64 0]) ∧ PRow 0 w' (.slice a n c) (applyG g l) ∧ (applyG g l).length = n ∧ ∀ j, Bd (k + m + 16) ((applyG g l).getD j 0)) ∧ Below w.heap.size w w' := by
  have s1 := h1.sz
  refine (applyM_c v u g l k m w h1.m hu h1.rc (by omega) (by omega) (by omega) h1.bd bl (by omega)).mono ?_
  rintro ee w' ⟨ho, hb⟩
  refine ⟨?_, hb⟩
  rcases ho with ⟨-, -, x, rfl, hx⟩ | ⟨no, -⟩
  · obtain ⟨a, c, rfl⟩ := hx.ex
    have hx2 : PRow 0 w' _ (applyG g l) := hx.row.rebase (Nat.zero_le _)
    rw [app_len, hn] at hx2 ⊢
    exact ⟨a, c, rfl, hx2, rfl, fun j => (app_bd2 h1.rc hl h1.bd bl j).mono (by omega)⟩
  · exact absurd ⟨by omega, hl⟩ no
/-- what made answers, both ways in one -/
theorem made_any {g : Grid} {w w' : World} {e : Ending} (h : MadePost g w e w') (hb : BdM 64 g) :
    (∃ a n c ok g', e = .returned (.tuple #[.agg #[.slice a n c], .bool ok]) ∧ IsM 0 w' (.agg #[.slice a n c]) g' ∧ n = g'.length ∧ (ok = true → g' = g ∧ Mt 64 g (.agg #[.slice a n c]) w')) ∧ Below w.heap.size w w' := by
  obtain ⟨h, hB⟩ := h
  refine ⟨?_, hB⟩
  rcases h with ⟨h64, hf, v, rfl, hv⟩ | ⟨-, rfl⟩
  · obtain ⟨a, c, rfl⟩ := hv.lit
    obtain ⟨hs, hr⟩ := fits_yes2 hf
    exact ⟨a, _, c, true, g, rfl, hv, rfl, fun _ => ⟨rfl, hv, hr, hs, hb⟩⟩
  · exact ⟨none, 0, 0, false, [], rfl, IsM.nil _ _, rfl, fun h => by cases h⟩
end Go.Proofs.YthaohpfbengabaaDoor

/- MatrixRing: sums and products of three, in any way together. -/
namespace Go.Proofs.YthaohpfbengabaaDoor
open Num
open Go.ChangeShapes Go.WideShapes Go.ChangeAt Go.RowKit
set_option linter.unusedVariables false
set_option linter.unusedSimpArgs false
attribute [local go_sem ↓] Go.wp_at_zero Go.wp_at_succ
set_option maxRecDepth 100000 in
set_option maxHeartbeats 16000000 in
theorem matrixRing_h (va vb vc vv : Value) (a b c : Grid) (v : List Int) (w : World) (ha : GridI w va a) (hb : GridI w vb b) (hcg : GridI w vc c) (hv : RowI w vv v) (la : a.length ≤ 1048576) (lb : b.length ≤ 1048576) (lc : c.length ≤ 1048576) (hla : ∀ k, k < a.length → (a.getD k []).length ≤ 1048576) (hlb : ∀ k, k < b.length → (b.getD k []).length ≤ 1048576) (hlc : ∀ k, k < c.length → (c.getD k []).length ≤ 1048576) (lv : v.length ≤ 1048576) :
    Calls Tryd.prog 5 #[va, vb, vc, vv] w fun e w' => e = .returned (.bool true) ∧ Below w.heap.size w w' := by
  have BA := Lib.hid (fun W (q : Below w.heap.size w W) => made5_c va a W (ha.keep q) hla (by omega))
  have BB := Lib.hid (fun W (q : Below w.heap.size w W) => made5_c vb b W (hb.keep q) hlb (by omega))
  have BC := Lib.hid (fun W (q : Below w.heap.size w W) => made5_c vc c W (hcg.keep q) hlc (by omega))
  have LV := Lib.hid (fun W (q : Below w.heap.size w W) => list_c vv v W (hv.keep q) (by omega))
  have HBD := Lib.hid (And.intro (i64_bdM2 ha) (And.intro (i64_bdM2 hb) (And.intro (i64_bdM2 hcg) (i64_bd2 hv))))
  obtain ⟨aa, ca, rfl, -⟩ := ha
  obtain ⟨ab, cb, rfl, -⟩ := hb
  obtain ⟨ac, cc, rfl, -⟩ := hcg
  obtain ⟨av, cv, rfl, -⟩ := hv
  have HLV := Lib.hid lv
  clear la lb lc hla hlb hlc lv
  have hB := Below.refl w.heap.size w
  obtain ⟨nv, hnv⟩ : ∃ n, v.length = n := ⟨_, rfl⟩
  have HNV := Lib.hid hnv
  rw [hnv] at LV ⊢
  clear hnv
  go_enter Tryd.func5, Tryd.ntmps5
  go_wp2_with fail
  (with_reducible refine (works_c _).mono ?_)
  rintro e w1 ⟨rfl, hb1⟩
  have hB1 : Below w.heap.size w w1 := bthen (by repeat (first | exact Below.refl _ _ | exact hB | refine Below.drew ?_ | refine below_drewN ?_ _ | refine bset ?_ (by simp <;> omega) _ | refine bal ?_ _)) hb1
  clear hb1 hB
  go_wp2_with fail
  (with_reducible refine (BA.out _ ?_).mono ?_); (repeat (first | exact Below.refl _ _ | exact hB1 | refine Below.drew ?_ | refine below_drewN ?_ _ | refine bset ?_ (by simp <;> omega) _ | refine bal ?_ _))
  intro e w2 hP
  obtain ⟨⟨xa, xn, xc, ok1, gx, rfl, hx, hxn, hxo⟩, hb2⟩ := made_any hP HBD.out.1
  have hB2 : Below w.heap.size w w2 := bthen (by repeat (first | exact Below.refl _ _ | exact hB1 | refine Below.drew ?_ | refine below_drewN ?_ _ | refine bset ?_ (by simp <;> omega) _ | refine bal ?_ _)) hb2
  have HX := Lib.hid hx
  have HXO := Lib.hid hxo
  have HXN := Lib.hid hxn
  clear BA hb2 hP hx hxn hxo hB1
  have hBw2 := Below.refl w2.heap.size w2
  go_wp2_with fail
  (with_reducible refine (BB.out _ ?_).mono ?_); (repeat (first | exact Below.refl _ _ | exact hB2 | refine Below.drew ?_ | refine below_drewN ?_ _ | refine bset ?_ (by simp <;> omega) _ | refine bal ?_ _))
  intro e w3 hP
  obtain ⟨⟨ya, yn, yc, ok2, gy, rfl, hy, hyn, hyo⟩, hb3⟩ := made_any hP HBD.out.2.1
  have hB3 : Below w.heap.size w w3 := bthen (by repeat (first | exact Below.refl _ _ | exact hB2 | refine Below.drew ?_ | refine below_drewN ?_ _ | refine bset ?_ (by simp <;> omega) _ | refine bal ?_ _)) hb3
  have hb23 : Below w2.heap.size w2 w3 := bthen (by repeat (first | exact Below.refl _ _ | exact hBw2 | refine Below.drew ?_ | refine below_drewN ?_ _ | refine bset ?_ (by simp <;> omega) _ | refine bal ?_ _)) hb3
  have hx0 : w3.cell? ⟨w2.heap.size, 0, none⟩ = some (.slice xa xn xc) := bkeep hb3 (by simp [go_sem])
  have HY := Lib.hid hy
  have HYO := Lib.hid hyo
  have HYN := Lib.hid hyn
  clear BB hb3 hP hy hyn hyo hB2 hBw2
  have hBw3 := Below.refl w3.heap.size w3
  go_wp2_with fail
  (with_reducible refine (BC.out _ ?_).mono ?_); (repeat (first | exact Below.refl _ _ | exact hB3 | refine Below.drew ?_ | refine below_drewN ?_ _ | refine bset ?_ (by simp <;> omega) _ | refine bal ?_ _))
  intro e w4 hP
  obtain ⟨⟨za, zn, zc, ok3, gz, rfl, hz', hzn, hzo⟩, hb4⟩ := made_any hP HBD.out.2.2.1
  have hB4 : Below w.heap.size w w4 := bthen (by repeat (first | exact Below.refl _ _ | exact hB3 | refine Below.drew ?_ | refine below_drewN ?_ _ | refine bset ?_ (by simp <;> omega) _ | refine bal ?_ _)) hb4
  have hb34 : Below w3.heap.size w3 w4 := bthen (by repeat (first | exact Below.refl _ _ | exact hBw3 | refine Below.drew ?_ | refine below_drewN ?_ _ | refine bset ?_ (by simp <;> omega) _ | refine bal ?_ _)) hb4
  have hb24 := bthen hb23 hb34
  have hx1 : w4.cell? ⟨w2.heap.size, 0, none⟩ = some (.slice xa xn xc) := bkeep hb34 hx0
  have hy1 : w4.cell? ⟨w3.heap.size, 0, none⟩ = some (.slice ya yn yc) := bkeep hb4 (by simp [go_sem])
  have HZO := Lib.hid hzo
  have HZN := Lib.hid hzn
  have HZ := Lib.hid hz'
  have HX4 := Lib.hid (HX.out.keep hb24)
  have HY4 := Lib.hid (HY.out.keep hb34)
  have HXO4 := Lib.hid (fun h => And.intro (HXO.out h).1 ((HXO.out h).2.keep hb24))
  have HYO4 := Lib.hid (fun h => And.intro (HYO.out h).1 ((HYO.out h).2.keep hb34))
  clear BC hb4 hP hz' hzn hzo hB3 hBw3 hx0 hb23 HX HY HXO HYO
  have hBw4 := Below.refl w4.heap.size w4
  have hB := hB4
  clear hB4 hb24 hb34
  go_wp2
  refine wp_name fun w5 hW5 => ?_
  have x0 : w5.cell? ⟨w2.heap.size, 0, none⟩ = some (.slice xa xn xc) := by rw [hW5]; exact (by first | assumption | exact cell_new (by with_reducible first | rfl | (simp; done) | (simp; omega)) rfl | (repeat (first | assumption | exact cell_new (by with_reducible first | rfl | (simp; done) | (simp; omega)) rfl | refine cell_alloc ?_ _ | refine cell_drew ?_ | refine cell_drewN ?_ _ | refine cell_far ?_ (by simp) _ | (refine cell_far ?_ (by simp <;> omega) _))) | simp [go_sem, *])
  have zx0 := cell_lt x0
  have y0 : w5.cell? ⟨w3.heap.size, 0, none⟩ = some (.slice ya yn yc) := by rw [hW5]; exact (by first | assumption | exact cell_new (by with_reducible first | rfl | (simp; done) | (simp; omega)) rfl | (repeat (first | assumption | exact cell_new (by with_reducible first | rfl | (simp; done) | (simp; omega)) rfl | refine cell_alloc ?_ _ | refine cell_drew ?_ | refine cell_drewN ?_ _ | refine cell_far ?_ (by simp) _ | (refine cell_far ?_ (by simp <;> omega) _))) | simp [go_sem, *])
  have zy0 := cell_lt y0
  have z0 : w5.cell? ⟨w4.heap.size, 0, none⟩ = some (.slice za zn zc) := by rw [hW5]; exact (by first | assumption | exact cell_new (by with_reducible first | rfl | (simp; done) | (simp; omega)) rfl | (repeat (first | assumption | exact cell_new (by with_reducible first | rfl | (simp; done) | (simp; omega)) rfl | refine cell_alloc ?_ _ | refine cell_drew ?_ | refine cell_drewN ?_ _ | refine cell_far ?_ (by simp) _ | (refine cell_far ?_ (by simp <;> omega) _))) | simp [go_sem, *])
  have zz0 := cell_lt z0
  have hB : Below w.heap.size w w5 := by rw [hW5]; repeat (first | exact Below.refl _ _ | exact hB | refine Below.drew ?_ | refine below_drewN ?_ _ | refine bset ?_ (by simp <;> omega) _ | refine bal ?_ _)
  have hb45 : Below w4.heap.size w4 w5 := by rw [hW5]; repeat (first | exact Below.refl _ _ | exact hBw4 | refine Below.drew ?_ | refine below_drewN ?_ _ | refine bset ?_ (by simp <;> omega) _ | refine bal ?_ _)
  have hz : w.heap.size ≤ w5.heap.size := hB.size
  clear hW5
  clear hx1 hy1 hBw4
  obtain ⟨cx, hcx⟩ : ∃ q, cols gx = q := ⟨_, rfl⟩
  obtain ⟨cy, hcy⟩ : ∃ q, cols gy = q := ⟨_, rfl⟩
  have HCX := Lib.hid (And.intro hcx hcy)
  have XC := Lib.hid (fun V (q : Below w5.heap.size w5 V) => colsI (HX4.out.keep (bthen hb45 q)) HCX.out.1)
  have YC := Lib.hid (fun V (q : Below w5.heap.size w5 V) => colsI (HY4.out.keep (bthen hb45 q)) HCX.out.2)
  have YR := Lib.hid (fun V => rowsM_c ya yn yc V)
  have ZR := Lib.hid (fun V => rowsM_c za zn zc V)
  clear hcx hcy
  cases ok1
  ·
    refine wp_region_grow (w := w5) (by kernel_rfl) (by kernel_rfl) ?_
    have x0g : ∀ gs, (grow w5 gs).cell? ⟨w2.heap.size, 0, none⟩ = some (.slice xa xn xc) := fun gs => bkeep gs.below x0
    have y0g : ∀ gs, (grow w5 gs).cell? ⟨w3.heap.size, 0, none⟩ = some (.slice ya yn yc) := fun gs => bkeep gs.below y0
    have z0g : ∀ gs, (grow w5 gs).cell? ⟨w4.heap.size, 0, none⟩ = some (.slice za zn zc) := fun gs => bkeep gs.below z0
    repeat (go_big_quiet_step ((first | (go_at_call 10; with_reducible exact grow_of (XC.out _ (Grows.below _))) | (go_at_call 9; with_reducible exact grow_of (YR.out _)) | (go_at_call 10; with_reducible exact grow_of (YC.out _ (Grows.below _))) | (go_at_call 9; with_reducible exact grow_of (ZR.out _)) | fail)))
    refine wpQuiet_nil ?_
    intro w6 hb6
    clear x0g
    clear y0g
    clear z0g
    have x0 := bkeep hb6 x0
    have y0 := bkeep hb6 y0
    have z0 := bkeep hb6 z0
    have hB := bthen hB hb6
    have hz := hB.size
    go_wp2
    go_ret
    exact ⟨rfl, by repeat (first | exact Below.refl _ _ | exact hB | refine Below.drew ?_ | refine below_drewN ?_ _ | refine bset ?_ (by simp <;> omega) _ | refine bal ?_ _)⟩
  cases ok2
  ·
    refine wp_region_grow (w := w5) (by kernel_rfl) (by kernel_rfl) ?_
    have x0g : ∀ gs, (grow w5 gs).cell? ⟨w2.heap.size, 0, none⟩ = some (.slice xa xn xc) := fun gs => bkeep gs.below x0
    have y0g : ∀ gs, (grow w5 gs).cell? ⟨w3.heap.size, 0, none⟩ = some (.slice ya yn yc) := fun gs => bkeep gs.below y0
    have z0g : ∀ gs, (grow w5 gs).cell? ⟨w4.heap.size, 0, none⟩ = some (.slice za zn zc) := fun gs => bkeep gs.below z0
    repeat (go_big_quiet_step ((first | (go_at_call 10; with_reducible exact grow_of (XC.out _ (Grows.below _))) | (go_at_call 9; with_reducible exact grow_of (YR.out _)) | (go_at_call 10; with_reducible exact grow_of (YC.out _ (Grows.below _))) | (go_at_call 9; with_reducible exact grow_of (ZR.out _)) | fail)))
    refine wpQuiet_nil ?_
    intro w6 hb6
    clear x0g
    clear y0g
    clear z0g
    have x0 := bkeep hb6 x0
    have y0 := bkeep hb6 y0
    have z0 := bkeep hb6 z0
    have hB := bthen hB hb6
    have hz := hB.size
    go_wp2
    go_ret
    exact ⟨rfl, by repeat (first | exact Below.refl _ _ | exact hB | refine Below.drew ?_ | refine below_drewN ?_ _ | refine bset ?_ (by simp <;> omega) _ | refine bal ?_ _)⟩
  cases ok3
  ·
    refine wp_region_grow (w := w5) (by kernel_rfl) (by kernel_rfl) ?_
    have x0g : ∀ gs, (grow w5 gs).cell? ⟨w2.heap.size, 0, none⟩ = some (.slice xa xn xc) := fun gs => bkeep gs.below x0
    have y0g : ∀ gs, (grow w5 gs).cell? ⟨w3.heap.size, 0, none⟩ = some (.slice ya yn yc) := fun gs => bkeep gs.below y0
    have z0g : ∀ gs, (grow w5 gs).cell? ⟨w4.heap.size, 0, none⟩ = some (.slice za zn zc) := fun gs => bkeep gs.below z0
    repeat (go_big_quiet_step ((first | (go_at_call 10; with_reducible exact grow_of (XC.out _ (Grows.below _))) | (go_at_call 9; with_reducible exact grow_of (YR.out _)) | (go_at_call 10; with_reducible exact grow_of (YC.out _ (Grows.below _))) | (go_at_call 9; with_reducible exact grow_of (ZR.out _)) | fail)))
    refine wpQuiet_nil ?_
    intro w6 hb6
    clear x0g
    clear y0g
    clear z0g
    have x0 := bkeep hb6 x0
    have y0 := bkeep hb6 y0
    have z0 := bkeep hb6 z0
    have hB := bthen hB hb6
    have hz := hB.size
    go_wp2
    go_ret
    exact ⟨rfl, by repeat (first | exact Below.refl _ _ | exact hB | refine Below.drew ?_ | refine below_drewN ?_ _ | refine bset ?_ (by simp <;> omega) _ | refine bal ?_ _)⟩
  by_cases h1 : cx = yn
  rotate_left
  · have hI1 : ((cx : Int) != (yn : Int)) = true := by simp; omega
    clear h1
    refine wp_region_grow (w := w5) (by kernel_rfl) (by kernel_rfl) ?_
    have x0g : ∀ gs, (grow w5 gs).cell? ⟨w2.heap.size, 0, none⟩ = some (.slice xa xn xc) := fun gs => bkeep gs.below x0
    have y0g : ∀ gs, (grow w5 gs).cell? ⟨w3.heap.size, 0, none⟩ = some (.slice ya yn yc) := fun gs => bkeep gs.below y0
    have z0g : ∀ gs, (grow w5 gs).cell? ⟨w4.heap.size, 0, none⟩ = some (.slice za zn zc) := fun gs => bkeep gs.below z0
    repeat (go_big_quiet_step ((first | (go_at_call 10; with_reducible exact grow_of (XC.out _ (Grows.below _))) | (go_at_call 9; with_reducible exact grow_of (YR.out _)) | (go_at_call 10; with_reducible exact grow_of (YC.out _ (Grows.below _))) | (go_at_call 9; with_reducible exact grow_of (ZR.out _)) | fail)))
    refine wpQuiet_nil ?_
    intro w6 hb6
    clear x0g
    clear y0g
    clear z0g
    have x0 := bkeep hb6 x0
    have y0 := bkeep hb6 y0
    have z0 := bkeep hb6 z0
    have hB := bthen hB hb6
    have hz := hB.size
    go_wp2
    go_ret
    exact ⟨rfl, by repeat (first | exact Below.refl _ _ | exact hB | refine Below.drew ?_ | refine below_drewN ?_ _ | refine bset ?_ (by simp <;> omega) _ | refine bal ?_ _)⟩
  have hI1 : ((cx : Int) != (yn : Int)) = false := by simp; omega
  have HE1 := Lib.hid h1
  clear h1
  by_cases h2 : cy = zn
  rotate_left
  · have hI2 : ((cy : Int) != (zn : Int)) = true := by simp; omega
    clear h2
    refine wp_region_grow (w := w5) (by kernel_rfl) (by kernel_rfl) ?_
    have x0g : ∀ gs, (grow w5 gs).cell? ⟨w2.heap.size, 0, none⟩ = some (.slice xa xn xc) := fun gs => bkeep gs.below x0
    have y0g : ∀ gs, (grow w5 gs).cell? ⟨w3.heap.size, 0, none⟩ = some (.slice ya yn yc) := fun gs => bkeep gs.below y0
    have z0g : ∀ gs, (grow w5 gs).cell? ⟨w4.heap.size, 0, none⟩ = some (.slice za zn zc) := fun gs => bkeep gs.below z0
    repeat (go_big_quiet_step ((first | (go_at_call 10; with_reducible exact grow_of (XC.out _ (Grows.below _))) | (go_at_call 9; with_reducible exact grow_of (YR.out _)) | (go_at_call 10; with_reducible exact grow_of (YC.out _ (Grows.below _))) | (go_at_call 9; with_reducible exact grow_of (ZR.out _)) | fail)))
    refine wpQuiet_nil ?_
    intro w6 hb6
    clear x0g
    clear y0g
    clear z0g
    have x0 := bkeep hb6 x0
    have y0 := bkeep hb6 y0
    have z0 := bkeep hb6 z0
    have hB := bthen hB hb6
    have hz := hB.size
    go_wp2
    go_ret
    exact ⟨rfl, by repeat (first | exact Below.refl _ _ | exact hB | refine Below.drew ?_ | refine below_drewN ?_ _ | refine bset ?_ (by simp <;> omega) _ | refine bal ?_ _)⟩
  have hI2 : ((cy : Int) != (zn : Int)) = false := by simp; omega
  have HE2 := Lib.hid h2
  clear h2
  refine wp_region_grow (w := w5) (by kernel_rfl) (by kernel_rfl) ?_
  have x0g : ∀ gs, (grow w5 gs).cell? ⟨w2.heap.size, 0, none⟩ = some (.slice xa xn xc) := fun gs => bkeep gs.below x0
  have y0g : ∀ gs, (grow w5 gs).cell? ⟨w3.heap.size, 0, none⟩ = some (.slice ya yn yc) := fun gs => bkeep gs.below y0
  have z0g : ∀ gs, (grow w5 gs).cell? ⟨w4.heap.size, 0, none⟩ = some (.slice za zn zc) := fun gs => bkeep gs.below z0
  repeat (go_big_quiet_step ((first | (go_at_call 10; with_reducible exact grow_of (XC.out _ (Grows.below _))) | (go_at_call 9; with_reducible exact grow_of (YR.out _)) | (go_at_call 10; with_reducible exact grow_of (YC.out _ (Grows.below _))) | (go_at_call 9; with_reducible exact grow_of (ZR.out _)) | fail)))
  refine wpQuiet_nil ?_
  intro w6 hb6
  clear x0g
  clear y0g
  clear z0g
  have x0 := bkeep hb6 x0
  have y0 := bkeep hb6 y0
  have z0 := bkeep hb6 z0
  have hB := bthen hB hb6
  have hz := hB.size
  have hk : Below w4.heap.size w4 w6 := bthen hb45 hb6
  obtain ⟨hg1, hm1⟩ := HXO4.out rfl
  obtain ⟨hg2, hm2⟩ := HYO4.out rfl
  obtain ⟨hg3, hm3⟩ := HZO.out rfl
  have MX := Lib.hid (show Mt 64 gx (.agg #[.slice xa xn xc]) w6 from by rw [hg1]; exact hm1.keep hk)
  have MY := Lib.hid (show Mt 64 gy (.agg #[.slice ya yn yc]) w6 from by rw [hg2]; exact hm2.keep hk)
  have MZ := Lib.hid (show Mt 64 gz (.agg #[.slice za zn zc]) w6 from by rw [hg3]; exact hm3.keep hk)
  have EXY := Lib.hid (show cols gx = gy.length from by rw [HCX.out.1, HE1.out, HYN.out])
  have EYZ := Lib.hid (show cols gy = gz.length from by rw [HCX.out.2, HE2.out, HZN.out])
  clear hg1 hg2 hg3 hm1 hm2 hm3 hb6 hb45 XC YC YR ZR hI1 hI2 HX4 HY4 HZ HXO4 HYO4 HZO hk
  have hBw := Below.refl w6.heap.size w6
  have TC := Lib.hid (fun V (q : Below w6.heap.size w6 V) => Mt.times (MX.out.keep q) (MY.out.keep q) EXY.out (by decide) HXN.out.symm)
  go_wp2_with fail
  (with_reducible refine (TC.out _ ?_).mono ?_); (repeat (first | exact Below.refl _ _ | exact hBw | refine Below.drew ?_ | refine below_drewN ?_ _ | refine bset ?_ (by simp <;> omega) _ | refine bal ?_ _))
  rintro e w7 ⟨⟨pa, pc, rfl, hm⟩, hb7⟩
  have hk : Below w6.heap.size w6 w7 := bthen (by repeat (first | exact Below.refl _ _ | exact hBw | refine Below.drew ?_ | refine below_drewN ?_ _ | refine bset ?_ (by simp <;> omega) _ | refine bal ?_ _)) hb7
  have x0 : w7.cell? ⟨w2.heap.size, 0, none⟩ = some (.slice xa xn xc) := bkc hb7
  have zx0 := cell_lt x0
  have y0 : w7.cell? ⟨w3.heap.size, 0, none⟩ = some (.slice ya yn yc) := bkc hb7
  have zy0 := cell_lt y0
  have z0 : w7.cell? ⟨w4.heap.size, 0, none⟩ = some (.slice za zn zc) := bkc hb7
  have zz0 := cell_lt z0
  have hB : Below w.heap.size w w7 := bthen (by repeat (first | exact Below.refl _ _ | exact hB | refine Below.drew ?_ | refine below_drewN ?_ _ | refine bset ?_ (by simp <;> omega) _ | refine bal ?_ _)) hb7
  have hz : w.heap.size ≤ w7.heap.size := hB.size
  clear TC hBw hb7
  have hBw := Below.refl w7.heap.size w7
  have MP := Lib.hid hm
  clear hm
  replace MX := Lib.hid (MX.out.keep hk)
  replace MY := Lib.hid (MY.out.keep hk)
  replace MZ := Lib.hid (MZ.out.keep hk)
  clear hk
  have TC := Lib.hid (fun V (q : Below w7.heap.size w7 V) => Mt.times (MY.out.keep q) (MZ.out.keep q) EYZ.out (by decide) HYN.out.symm)
  go_wp2_with fail
  (with_reducible refine (TC.out _ ?_).mono ?_); (repeat (first | exact Below.refl _ _ | exact hBw | refine Below.drew ?_ | refine below_drewN ?_ _ | refine bset ?_ (by simp <;> omega) _ | refine bal ?_ _))
  rintro e w8 ⟨⟨qa, qc, rfl, hm⟩, hb8⟩
  have hk : Below w7.heap.size w7 w8 := bthen (by repeat (first | exact Below.refl _ _ | exact hBw | refine Below.drew ?_ | refine below_drewN ?_ _ | refine bset ?_ (by simp <;> omega) _ | refine bal ?_ _)) hb8
  have x0 : w8.cell? ⟨w2.heap.size, 0, none⟩ = some (.slice xa xn xc) := bkc hb8
  have zx0 := cell_lt x0
  have y0 : w8.cell? ⟨w3.heap.size, 0, none⟩ = some (.slice ya yn yc) := bkc hb8
  have zy0 := cell_lt y0
  have z0 : w8.cell? ⟨w4.heap.size, 0, none⟩ = some (.slice za zn zc) := bkc hb8
  have zz0 := cell_lt z0
  have p0 : w8.cell? ⟨w7.heap.size, 0, none⟩ = some (.slice pa xn pc) := bkc hb8
  have zp0 := cell_lt p0
  have hB : Below w.heap.size w w8 := bthen (by repeat (first | exact Below.refl _ _ | exact hB | refine Below.drew ?_ | refine below_drewN ?_ _ | refine bset ?_ (by simp <;> omega) _ | refine bal ?_ _)) hb8
  have hz : w.heap.size ≤ w8.heap.size := hB.size
  clear TC hBw hb8
  have hBw := Below.refl w8.heap.size w8
  have MQ := Lib.hid hm
  clear hm
  replace MX := Lib.hid (MX.out.keep hk)
  replace MY := Lib.hid (MY.out.keep hk)
  replace MZ := Lib.hid (MZ.out.keep hk)
  replace MP := Lib.hid (MP.out.keep hk)
  clear hk
  have TC := Lib.hid (fun V (q : Below w8.heap.size w8 V) => Mt.times (n := xn) (MP.out.keep q) (MZ.out.keep q) (by rw [times_cols MX.out.sz.1]; exact EYZ.out) (by decide) (by rw [times_len]; exact HXN.out.symm))
  go_wp2_with fail
  (with_reducible refine (TC.out _ ?_).mono ?_); (repeat (first | exact Below.refl _ _ | exact hBw | refine Below.drew ?_ | refine below_drewN ?_ _ | refine bset ?_ (by simp <;> omega) _ | refine bal ?_ _))
  rintro e w9 ⟨⟨la, lc, rfl, hm⟩, hb9⟩
  have hk : Below w8.heap.size w8 w9 := bthen (by repeat (first | exact Below.refl _ _ | exact hBw | refine Below.drew ?_ | refine below_drewN ?_ _ | refine bset ?_ (by simp <;> omega) _ | refine bal ?_ _)) hb9
  have x0 : w9.cell? ⟨w2.heap.size, 0, none⟩ = some (.slice xa xn xc) := bkc hb9
  have zx0 := cell_lt x0
  have y0 : w9.cell? ⟨w3.heap.size, 0, none⟩ = some (.slice ya yn yc) := bkc hb9
  have zy0 := cell_lt y0
  have z0 : w9.cell? ⟨w4.heap.size, 0, none⟩ = some (.slice za zn zc) := bkc hb9
  have zz0 := cell_lt z0
  have p0 : w9.cell? ⟨w7.heap.size, 0, none⟩ = some (.slice pa xn pc) := bkc hb9
  have zp0 := cell_lt p0
  have q0 : w9.cell? ⟨w8.heap.size, 0, none⟩ = some (.slice qa yn qc) := bkc hb9
  have zq0 := cell_lt q0
  have hB : Below w.heap.size w w9 := bthen (by repeat (first | exact Below.refl _ _ | exact hB | refine Below.drew ?_ | refine below_drewN ?_ _ | refine bset ?_ (by simp <;> omega) _ | refine bal ?_ _)) hb9
  have hz : w.heap.size ≤ w9.heap.size := hB.size
  clear TC hBw hb9
  have hBw := Below.refl w9.heap.size w9
  have ML := Lib.hid hm
  clear hm
  replace MX := Lib.hid (MX.out.keep hk)
  replace MY := Lib.hid (MY.out.keep hk)
  replace MP := Lib.hid (MP.out.keep hk)
  replace MQ := Lib.hid (MQ.out.keep hk)
  clear hk MZ
  have TC := Lib.hid (fun V (q : Below w9.heap.size w9 V) => Mt.times (MX.out.keep q) (MQ.out.keep q) (by rw [times_len]; exact EXY.out) (by decide) HXN.out.symm)
  go_wp2_with fail
  (with_reducible refine (TC.out _ ?_).mono ?_); (repeat (first | exact Below.refl _ _ | exact hBw | refine Below.drew ?_ | refine below_drewN ?_ _ | refine bset ?_ (by simp <;> omega) _ | refine bal ?_ _))
  rintro e w10 ⟨⟨ra, rc, rfl, hm⟩, hb10⟩
  have hk : Below w9.heap.size w9 w10 := bthen (by repeat (first | exact Below.refl _ _ | exact hBw | refine Below.drew ?_ | refine below_drewN ?_ _ | refine bset ?_ (by simp <;> omega) _ | refine bal ?_ _)) hb10
  have x0 : w10.cell? ⟨w2.heap.size, 0, none⟩ = some (.slice xa xn xc) := bkc hb10
  have zx0 := cell_lt x0
  have y0 : w10.cell? ⟨w3.heap.size, 0, none⟩ = some (.slice ya yn yc) := bkc hb10
  have zy0 := cell_lt y0
  have z0 : w10.cell? ⟨w4.heap.size, 0, none⟩ = some (.slice za zn zc) := bkc hb10
  have zz0 := cell_lt z0
  have p0 : w10.cell? ⟨w7.heap.size, 0, none⟩ = some (.slice pa xn pc) := bkc hb10
  have zp0 := cell_lt p0
  have q0 : w10.cell? ⟨w8.heap.size, 0, none⟩ = some (.slice qa yn qc) := bkc hb10
  have zq0 := cell_lt q0
  have l0 : w10.cell? ⟨w9.heap.size, 0, none⟩ = some (.slice la xn lc) := bkc hb10
  have zl0 := cell_lt l0
  have hB : Below w.heap.size w w10 := bthen (by repeat (first | exact Below.refl _ _ | exact hB | refine Below.drew ?_ | refine below_drewN ?_ _ | refine bset ?_ (by simp <;> omega) _ | refine bal ?_ _)) hb10
  have hz : w.heap.size ≤ w10.heap.size := hB.size
  clear TC hBw hb10
  have hBw := Below.refl w10.heap.size w10
  have MR := Lib.hid hm
  clear hm
  replace MX := Lib.hid (MX.out.keep hk)
  replace MY := Lib.hid (MY.out.keep hk)
  replace MP := Lib.hid (MP.out.keep hk)
  replace ML := Lib.hid (ML.out.keep hk)
  clear hk MQ
  clear z0 q0
  go_wp2
  refine wp_name fun w11 hW11 => ?_
  have x0 : w11.cell? ⟨w2.heap.size, 0, none⟩ = some (.slice xa xn xc) := by rw [hW11]; exact (by first | assumption | exact cell_new (by with_reducible first | rfl | (simp; done) | (simp; omega)) rfl | (repeat (first | assumption | exact cell_new (by with_reducible first | rfl | (simp; done) | (simp; omega)) rfl | refine cell_alloc ?_ _ | refine cell_drew ?_ | refine cell_drewN ?_ _ | refine cell_far ?_ (by simp) _ | (refine cell_far ?_ (by simp <;> omega) _))) | simp [go_sem, *])
  have zx0 := cell_lt x0
  have y0 : w11.cell? ⟨w3.heap.size, 0, none⟩ = some (.slice ya yn yc) := by rw [hW11]; exact (by first | assumption | exact cell_new (by with_reducible first | rfl | (simp; done) | (simp; omega)) rfl | (repeat (first | assumption | exact cell_new (by with_reducible first | rfl | (simp; done) | (simp; omega)) rfl | refine cell_alloc ?_ _ | refine cell_drew ?_ | refine cell_drewN ?_ _ | refine cell_far ?_ (by simp) _ | (refine cell_far ?_ (by simp <;> omega) _))) | simp [go_sem, *])
  have zy0 := cell_lt y0
  have p0 : w11.cell? ⟨w7.heap.size, 0, none⟩ = some (.slice pa xn pc) := by rw [hW11]; exact (by first | assumption | exact cell_new (by with_reducible first | rfl | (simp; done) | (simp; omega)) rfl | (repeat (first | assumption | exact cell_new (by with_reducible first | rfl | (simp; done) | (simp; omega)) rfl | refine cell_alloc ?_ _ | refine cell_drew ?_ | refine cell_drewN ?_ _ | refine cell_far ?_ (by simp) _ | (refine cell_far ?_ (by simp <;> omega) _))) | simp [go_sem, *])
  have zp0 := cell_lt p0
  have l0 : w11.cell? ⟨w9.heap.size, 0, none⟩ = some (.slice la xn lc) := by rw [hW11]; exact (by first | assumption | exact cell_new (by with_reducible first | rfl | (simp; done) | (simp; omega)) rfl | (repeat (first | assumption | exact cell_new (by with_reducible first | rfl | (simp; done) | (simp; omega)) rfl | refine cell_alloc ?_ _ | refine cell_drew ?_ | refine cell_drewN ?_ _ | refine cell_far ?_ (by simp) _ | (refine cell_far ?_ (by simp <;> omega) _))) | simp [go_sem, *])
  have zl0 := cell_lt l0
  have r0 : w11.cell? ⟨w10.heap.size, 0, none⟩ = some (.slice ra xn rc) := by rw [hW11]; exact (by first | assumption | exact cell_new (by with_reducible first | rfl | (simp; done) | (simp; omega)) rfl | (repeat (first | assumption | exact cell_new (by with_reducible first | rfl | (simp; done) | (simp; omega)) rfl | refine cell_alloc ?_ _ | refine cell_drew ?_ | refine cell_drewN ?_ _ | refine cell_far ?_ (by simp) _ | (refine cell_far ?_ (by simp <;> omega) _))) | simp [go_sem, *])
  have zr0 := cell_lt r0
  have hB : Below w.heap.size w w11 := by rw [hW11]; repeat (first | exact Below.refl _ _ | exact hB | refine Below.drew ?_ | refine below_drewN ?_ _ | refine bset ?_ (by simp <;> omega) _ | refine bal ?_ _)
  have hk : Below w10.heap.size w10 w11 := by rw [hW11]; repeat (first | exact Below.refl _ _ | exact hBw | refine Below.drew ?_ | refine below_drewN ?_ _ | refine bset ?_ (by simp <;> omega) _ | refine bal ?_ _)
  have hz : w.heap.size ≤ w11.heap.size := hB.size
  clear hW11
  replace MX := Lib.hid (MX.out.keep hk)
  replace MY := Lib.hid (MY.out.keep hk)
  replace MP := Lib.hid (MP.out.keep hk)
  replace ML := Lib.hid (ML.out.keep hk)
  replace MR := Lib.hid (MR.out.keep hk)
  clear hk hBw
  have EQ1 := Lib.hid (times_assoc MX.out.sz.1 MY.out.sz.1 EXY.out EYZ.out)
  have EQ2 := Lib.hid (times_turn MX.out.sz.1 MY.out.sz.1 EXY.out MY.out.sz.2.1)
  have ETT := Lib.hid (show cols (turnG gy) = (turnG gx).length from by rw [turn_cols MY.out.sz.2.1, turn_len]; exact EXY.out.symm)
  have T1 := Lib.hid (fun V (q : Below w11.heap.size w11 V) => Mt.turn (MY.out.keep q) HCX.out.2)
  have T2 := Lib.hid (fun V (q : Below w11.heap.size w11 V) => Mt.turn (MX.out.keep q) HCX.out.1)
  go_cut [23, 24] (fun s23 s24 wx => ∃ tb ta tc, s23 = .pointer (some ⟨tb, 0, none⟩) ∧ s24 = .int .i64 0 ∧ Hid (wx.cell? ⟨tb, 0, none⟩ = some (.slice ta cy tc) ∧ Mt (64 + 64 + 16) (timesG (turnG gy) (turnG gx)) (.agg #[.slice ta cy tc]) wx) ∧ Below w11.heap.size w11 wx)
  case first =>
    have HS := Lib.hid (show ∀ V, Below w11.heap.size w11 V → V.cell? ⟨w2.heap.size, 0, none⟩ = some (.slice xa xn xc) ∧ V.cell? ⟨w3.heap.size, 0, none⟩ = some (.slice ya yn yc) from fun V q => ⟨bkeep q x0, bkeep q y0⟩)
    have hBj := Below.refl w11.heap.size w11
    have hla1 := hBj.size
    go_region_held3 (fun V => V.cell? ⟨w2.heap.size, 0, none⟩ = some (.slice xa xn xc) ∧ V.cell? ⟨w3.heap.size, 0, none⟩ = some (.slice ya yn yc))
      (first | (refine HS.out _ ?_; (repeat' (first | exact Below.refl _ _ | exact hBj | refine Below.drew ?_ | refine below_drewN ?_ _ | refine bal ?_ _ | refine bset ?_ ?_ _ | exact hla12 | exact Nat.le_trans hla12 (Nat.le_succ _) | exact hla13 | exact Nat.le_trans hla13 (Nat.le_succ _) | exact hla14 | exact Nat.le_trans hla14 (Nat.le_succ _) | exact hla1 | exact Nat.le_trans hla1 (Nat.le_succ _) | exact Nat.le_refl _ | exact Nat.le_succ _)); done) | fail)
      (first
      | (go_at_call 12; (with_reducible refine (T1.out _ ?_).mono ?_); (repeat (first | exact Below.refl _ _ | exact hBj | refine Below.drew ?_ | refine below_drewN ?_ _ | refine bset ?_ (by simp <;> omega) _ | refine bal ?_ _)); rintro e w12 ⟨⟨ua, uc, rfl, hm⟩, hb12⟩; (have hBd : Below w11.heap.size w11 w12 := bthen (by repeat (first | exact Below.refl _ _ | exact hBj | refine Below.drew ?_ | refine below_drewN ?_ _ | refine bset ?_ (by simp <;> omega) _ | refine bal ?_ _)) hb12; clear hBj; have hBj := hBd; clear hBd); have hc12 := (bcell hb12).1; have hf12 := (bcell hb12).2; have ht12 := tcell hb12; have hla12 := hBj.size; have hs12 := hb12.size; (try simp [go_sem] at hs12); (try have qa12 : w11.heap.size < w12.heap.size := by omega); have MU := Lib.hid hm; have hy12 := Below.refl w12.heap.size w12; clear hm)
      | (go_at_call 12; (with_reducible refine (T2.out _ ?_).mono ?_); (repeat (first | exact Below.refl _ _ | exact hBj | refine Below.drew ?_ | refine below_drewN ?_ _ | refine bset ?_ (by simp <;> omega) _ | refine bal ?_ _)); rintro e w13 ⟨⟨va, vc, rfl, hm⟩, hb13⟩; (have hs13 : Below w12.heap.size w12 w13 := bthen (by repeat (first | exact Below.refl _ _ | exact hy12 | refine Below.drew ?_ | refine below_drewN ?_ _ | refine bset ?_ (by simp <;> omega) _ | refine bal ?_ _)) hb13); (have hBd : Below w11.heap.size w11 w13 := bthen (by repeat (first | exact Below.refl _ _ | exact hBj | refine Below.drew ?_ | refine below_drewN ?_ _ | refine bset ?_ (by simp <;> omega) _ | refine bal ?_ _)) hb13; clear hBj; have hBj := hBd; clear hBd); have hc13 := (bcell hb13).1; have hf13 := (bcell hb13).2; have ht13 := tcell hb13; have hla13 := hBj.size; have hz13 := hb13.size; (try simp [go_sem] at hz13); (try have qa13 : w11.heap.size < w13.heap.size := by omega); (try have qb13 : w12.heap.size < w13.heap.size := by omega); have MU13 := Lib.hid (MU.out.keep hs13); have MV := Lib.hid hm; have hy13 := Below.refl w13.heap.size w13; clear hm)
      | (go_at_call 19; (with_reducible refine (Mt.times (MU13.out.keep ?_) (MV.out.keep ?_) ETT.out (by decide) (n := cy) (by rw [turn_len]; exact HCX.out.2)).mono ?_); (repeat (first | exact Below.refl _ _ | exact hy13 | refine Below.drew ?_ | refine below_drewN ?_ _ | refine bset ?_ (by simp <;> omega) _ | refine bal ?_ _)); (repeat (first | exact Below.refl _ _ | exact hy13 | refine Below.drew ?_ | refine below_drewN ?_ _ | refine bset ?_ (by simp <;> omega) _ | refine bal ?_ _)); rintro e w14 ⟨⟨ta, tc, rfl, hm⟩, hb14⟩; (have hBd : Below w11.heap.size w11 w14 := bthen (by repeat (first | exact Below.refl _ _ | exact hBj | refine Below.drew ?_ | refine below_drewN ?_ _ | refine bset ?_ (by simp <;> omega) _ | refine bal ?_ _)) hb14; clear hBj; have hBj := hBd; clear hBd); have hc14 := (bcell hb14).1; have hf14 := (bcell hb14).2; have ht14 := tcell hb14; have hla14 := hBj.size; have hz14 := hb14.size; (try simp [go_sem] at hz14); (try have qa14 : w11.heap.size < w14.heap.size := by omega); (try have qb14 : w12.heap.size < w14.heap.size := by omega); (try have qc14 : w13.heap.size < w14.heap.size := by omega); have MT := Lib.hid hm; clear hm)
      | fail)
    all_goals
      go_wp2_with fail
      go_meet
      refine (fun hbx => ⟨_, ta, tc, rfl, rfl, Lib.hid ⟨?_, ?_⟩, hbx⟩ : Below w11.heap.size w11 _ → _) ?_
      all_goals first
        | (simp [go_sem, *]; done)
        | ((repeat' (first | exact Below.refl _ _ | exact hBj | refine Below.drew ?_ | refine below_drewN ?_ _ | refine bal ?_ _ | refine bset ?_ ?_ _ | exact hla12 | exact Nat.le_trans hla12 (Nat.le_succ _) | exact hla13 | exact Nat.le_trans hla13 (Nat.le_succ _) | exact hla14 | exact Nat.le_trans hla14 (Nat.le_succ _) | exact hla1 | exact Nat.le_trans hla1 (Nat.le_succ _) | exact Nat.le_refl _ | exact Nat.le_succ _)); done)
        | ((repeat' (first | exact MT.out | refine Mt.al ?_ _ | refine Mt.dr ?_ | refine Mt.setM ?_ ?_ _)) <;> (simp (disch := (first | (simp; done) | (simp; omega) | omega)) only [typ_set, typ_alloc_eq, typ_alloc_lt, ht12, ht13, ht14, typ_drew]; done))
  case rest =>
    obtain ⟨tb, ta, tc, rfl, rfl, hT, hk⟩ := hcut
    have MT := Lib.hid hT.out.2
    have t0 := hT.out.1
    have x0 := bkeep hk x0
    have y0 := bkeep hk y0
    have p0 := bkeep hk p0
    have l0 := bkeep hk l0
    have r0 := bkeep hk r0
    have hB := bthen hB hk
    have hz := hB.size
    replace MX := Lib.hid (MX.out.keep hk)
    replace MY := Lib.hid (MY.out.keep hk)
    replace MP := Lib.hid (MP.out.keep hk)
    replace ML := Lib.hid (ML.out.keep hk)
    replace MR := Lib.hid (MR.out.keep hk)
    clear hT T1 T2 ETT hk
    have T3 := Lib.hid (fun V (q : Below wc.heap.size wc V) => Mt.turn (MP.out.keep q) (show cols (timesG gx gy) = cy from by rw [times_cols MX.out.sz.1]; exact HCX.out.2))
    have SM1 := Lib.hid (fun V (q : Below wc.heap.size wc V) => Mt.same (ML.out.keep q) (MR.out.keep q) EQ1.out)
    have HS := Lib.hid (show ∀ V, Below wc.heap.size wc V → V.cell? ⟨w7.heap.size, 0, none⟩ = some (.slice pa xn pc) ∧ V.cell? ⟨w9.heap.size, 0, none⟩ = some (.slice la xn lc) ∧ V.cell? ⟨w10.heap.size, 0, none⟩ = some (.slice ra xn rc) ∧ V.cell? ⟨tb, 0, none⟩ = some (.slice ta cy tc) from fun V q => ⟨bkeep q p0, bkeep q l0, bkeep q r0, bkeep q t0⟩)
    have hBw := Below.refl wc.heap.size wc
    go_wp2
    go_region_held3 (fun V => V.cell? ⟨w7.heap.size, 0, none⟩ = some (.slice pa xn pc) ∧ V.cell? ⟨w9.heap.size, 0, none⟩ = some (.slice la xn lc) ∧ V.cell? ⟨w10.heap.size, 0, none⟩ = some (.slice ra xn rc) ∧ V.cell? ⟨tb, 0, none⟩ = some (.slice ta cy tc))
      (first | (refine HS.out _ ?_; (repeat (first | exact Below.refl _ _ | exact hBw | refine Below.drew ?_ | refine below_drewN ?_ _ | refine bset ?_ (by simp <;> omega) _ | refine bal ?_ _)); done) | fail)
      (first
      | (go_at_call 24; (with_reducible refine (SM1.out _ ?_).mono ?_); (repeat (first | exact Below.refl _ _ | exact hBw | refine Below.drew ?_ | refine below_drewN ?_ _ | refine bset ?_ (by simp <;> omega) _ | refine bal ?_ _)); rintro e w15 ⟨rfl, hb15⟩; (have hBd : Below wc.heap.size wc w15 := bthen (by repeat (first | exact Below.refl _ _ | exact hBw | refine Below.drew ?_ | refine below_drewN ?_ _ | refine bset ?_ (by simp <;> omega) _ | refine bal ?_ _)) hb15; clear hBw; have hBw := hBd; clear hBd))
      | (go_at_call 12; (with_reducible refine (T3.out _ ?_).mono ?_); (repeat (first | exact Below.refl _ _ | exact hBw | refine Below.drew ?_ | refine below_drewN ?_ _ | refine bset ?_ (by simp <;> omega) _ | refine bal ?_ _)); rintro e w16 ⟨⟨ua, uc, rfl, hm⟩, hb16⟩; (have hBd : Below wc.heap.size wc w16 := bthen (by repeat (first | exact Below.refl _ _ | exact hBw | refine Below.drew ?_ | refine below_drewN ?_ _ | refine bset ?_ (by simp <;> omega) _ | refine bal ?_ _)) hb16; clear hBw; have hBw := hBd; clear hBd); have MU := Lib.hid hm; have MT16 := Lib.hid (MT.out.keep hBw); have hy16 := Below.refl w16.heap.size w16; clear hm)
      | (go_at_call 24; (with_reducible refine (Mt.same (MT16.out.keep ?_) (MU.out.keep ?_) EQ2.out).mono ?_); (repeat (first | exact Below.refl _ _ | exact hy16 | refine Below.drew ?_ | refine below_drewN ?_ _ | refine bset ?_ (by simp <;> omega) _ | refine bal ?_ _)); (repeat (first | exact Below.refl _ _ | exact hy16 | refine Below.drew ?_ | refine below_drewN ?_ _ | refine bset ?_ (by simp <;> omega) _ | refine bal ?_ _)); rintro e w17 ⟨rfl, hb17⟩; (have hBd : Below wc.heap.size wc w17 := bthen (by repeat (first | exact Below.refl _ _ | exact hBw | refine Below.drew ?_ | refine below_drewN ?_ _ | refine bset ?_ (by simp <;> omega) _ | refine bal ?_ _)) hb17; clear hBw; have hBw := hBd; clear hBd))
      | fail)
    all_goals
      have x0 := bkeep hBw x0
      have y0 := bkeep hBw y0
      have p0 := bkeep hBw p0
      have hB := bthen hB hBw
      have hz := hB.size
      have hk := hBw
      replace MX := Lib.hid (MX.out.keep hk)
      replace MY := Lib.hid (MY.out.keep hk)
      replace MP := Lib.hid (MP.out.keep hk)
      clear hBw hk HS T3 SM1 MT MT16 MU ML MR t0 l0 r0
      have hBw := Below.refl w17.heap.size w17
      have TC := Lib.hid (fun V (q : Below w17.heap.size w17 V) => Mt.plus (MY.out.keep q) (MY.out.keep q) rfl rfl (by decide) HYN.out.symm)
      go_wp2_with fail
      (with_reducible refine (TC.out _ ?_).mono ?_); (repeat (first | exact Below.refl _ _ | exact hBw | refine Below.drew ?_ | refine below_drewN ?_ _ | refine bset ?_ (by simp <;> omega) _ | refine bal ?_ _))
      rintro e w21 ⟨⟨da, dc, rfl, hm⟩, hb21⟩
      have hk : Below w17.heap.size w17 w21 := bthen (by repeat (first | exact Below.refl _ _ | exact hBw | refine Below.drew ?_ | refine below_drewN ?_ _ | refine bset ?_ (by simp <;> omega) _ | refine bal ?_ _)) hb21
      have x0 : w21.cell? ⟨w2.heap.size, 0, none⟩ = some (.slice xa xn xc) := bkc hb21
      have zx0 := cell_lt x0
      have y0 : w21.cell? ⟨w3.heap.size, 0, none⟩ = some (.slice ya yn yc) := bkc hb21
      have zy0 := cell_lt y0
      have p0 : w21.cell? ⟨w7.heap.size, 0, none⟩ = some (.slice pa xn pc) := bkc hb21
      have zp0 := cell_lt p0
      have hB : Below w.heap.size w w21 := bthen (by repeat (first | exact Below.refl _ _ | exact hB | refine Below.drew ?_ | refine below_drewN ?_ _ | refine bset ?_ (by simp <;> omega) _ | refine bal ?_ _)) hb21
      have hz : w.heap.size ≤ w21.heap.size := hB.size
      clear TC hBw hb21
      have hBw := Below.refl w21.heap.size w21
      have MD := Lib.hid hm
      clear hm
      replace MX := Lib.hid (MX.out.keep hk)
      replace MY := Lib.hid (MY.out.keep hk)
      replace MP := Lib.hid (MP.out.keep hk)
      clear hk
      have TC := Lib.hid (fun V (q : Below w21.heap.size w21 V) => Mt.plus (k := 64 + 1) ((MY.out.keep q).mono (by decide)) (MD.out.keep q) (by rw [plus_len]) (by rw [plus_cols MY.out.sz.1]) (by decide) HYN.out.symm)
      go_wp2_with fail
      (with_reducible refine (TC.out _ ?_).mono ?_); (repeat (first | exact Below.refl _ _ | exact hBw | refine Below.drew ?_ | refine below_drewN ?_ _ | refine bset ?_ (by simp <;> omega) _ | refine bal ?_ _))
      rintro e w22 ⟨⟨sa, sc, rfl, hm⟩, hb22⟩
      have hk : Below w21.heap.size w21 w22 := bthen (by repeat (first | exact Below.refl _ _ | exact hBw | refine Below.drew ?_ | refine below_drewN ?_ _ | refine bset ?_ (by simp <;> omega) _ | refine bal ?_ _)) hb22
      have x0 : w22.cell? ⟨w2.heap.size, 0, none⟩ = some (.slice xa xn xc) := bkc hb22
      have zx0 := cell_lt x0
      have y0 : w22.cell? ⟨w3.heap.size, 0, none⟩ = some (.slice ya yn yc) := bkc hb22
      have zy0 := cell_lt y0
      have p0 : w22.cell? ⟨w7.heap.size, 0, none⟩ = some (.slice pa xn pc) := bkc hb22
      have zp0 := cell_lt p0
      have d0 : w22.cell? ⟨w21.heap.size, 0, none⟩ = some (.slice da yn dc) := bkc hb22
      have zd0 := cell_lt d0
      have hB : Below w.heap.size w w22 := bthen (by repeat (first | exact Below.refl _ _ | exact hB | refine Below.drew ?_ | refine below_drewN ?_ _ | refine bset ?_ (by simp <;> omega) _ | refine bal ?_ _)) hb22
      have hz : w.heap.size ≤ w22.heap.size := hB.size
      clear TC hBw hb22
      have hBw := Below.refl w22.heap.size w22
      have MS := Lib.hid hm
      clear hm MD d0
      replace MX := Lib.hid (MX.out.keep hk)
      replace MY := Lib.hid (MY.out.keep hk)
      replace MP := Lib.hid (MP.out.keep hk)
      clear hk
      have TC := Lib.hid (fun V (q : Below w22.heap.size w22 V) => Mt.times (MX.out.keep q) (MS.out.keep q) (by rw [plus_len]; exact EXY.out) (by decide) HXN.out.symm)
      go_wp2_with fail
      (with_reducible refine (TC.out _ ?_).mono ?_); (repeat (first | exact Below.refl _ _ | exact hBw | refine Below.drew ?_ | refine below_drewN ?_ _ | refine bset ?_ (by simp <;> omega) _ | refine bal ?_ _))
      rintro e w23 ⟨⟨ma, mc, rfl, hm⟩, hb23⟩
      have hk : Below w22.heap.size w22 w23 := bthen (by repeat (first | exact Below.refl _ _ | exact hBw | refine Below.drew ?_ | refine below_drewN ?_ _ | refine bset ?_ (by simp <;> omega) _ | refine bal ?_ _)) hb23
      have x0 : w23.cell? ⟨w2.heap.size, 0, none⟩ = some (.slice xa xn xc) := bkc hb23
      have zx0 := cell_lt x0
      have y0 : w23.cell? ⟨w3.heap.size, 0, none⟩ = some (.slice ya yn yc) := bkc hb23
      have zy0 := cell_lt y0
      have p0 : w23.cell? ⟨w7.heap.size, 0, none⟩ = some (.slice pa xn pc) := bkc hb23
      have zp0 := cell_lt p0
      have s0 : w23.cell? ⟨w22.heap.size, 0, none⟩ = some (.slice sa yn sc) := bkc hb23
      have zs0 := cell_lt s0
      have hB : Below w.heap.size w w23 := bthen (by repeat (first | exact Below.refl _ _ | exact hB | refine Below.drew ?_ | refine below_drewN ?_ _ | refine bset ?_ (by simp <;> omega) _ | refine bal ?_ _)) hb23
      have hz : w.heap.size ≤ w23.heap.size := hB.size
      clear TC hBw hb23
      have hBw := Below.refl w23.heap.size w23
      have MM := Lib.hid hm
      clear hm
      replace MX := Lib.hid (MX.out.keep hk)
      replace MY := Lib.hid (MY.out.keep hk)
      replace MP := Lib.hid (MP.out.keep hk)
      replace MS := Lib.hid (MS.out.keep hk)
      clear hk hBw
      have hBw := Below.refl w23.heap.size w23
      go_wp2
      refine wp_name fun w24 hW24 => ?_
      have x0 : w24.cell? ⟨w2.heap.size, 0, none⟩ = some (.slice xa xn xc) := by rw [hW24]; exact (by first | assumption | exact cell_new (by with_reducible first | rfl | (simp; done) | (simp; omega)) rfl | (repeat (first | assumption | exact cell_new (by with_reducible first | rfl | (simp; done) | (simp; omega)) rfl | refine cell_alloc ?_ _ | refine cell_drew ?_ | refine cell_drewN ?_ _ | refine cell_far ?_ (by simp) _ | (refine cell_far ?_ (by simp <;> omega) _))) | simp [go_sem, *])
      have zx0 := cell_lt x0
      have y0 : w24.cell? ⟨w3.heap.size, 0, none⟩ = some (.slice ya yn yc) := by rw [hW24]; exact (by first | assumption | exact cell_new (by with_reducible first | rfl | (simp; done) | (simp; omega)) rfl | (repeat (first | assumption | exact cell_new (by with_reducible first | rfl | (simp; done) | (simp; omega)) rfl | refine cell_alloc ?_ _ | refine cell_drew ?_ | refine cell_drewN ?_ _ | refine cell_far ?_ (by simp) _ | (refine cell_far ?_ (by simp <;> omega) _))) | simp [go_sem, *])
      have zy0 := cell_lt y0
      have p0 : w24.cell? ⟨w7.heap.size, 0, none⟩ = some (.slice pa xn pc) := by rw [hW24]; exact (by first | assumption | exact cell_new (by with_reducible first | rfl | (simp; done) | (simp; omega)) rfl | (repeat (first | assumption | exact cell_new (by with_reducible first | rfl | (simp; done) | (simp; omega)) rfl | refine cell_alloc ?_ _ | refine cell_drew ?_ | refine cell_drewN ?_ _ | refine cell_far ?_ (by simp) _ | (refine cell_far ?_ (by simp <;> omega) _))) | simp [go_sem, *])
      have zp0 := cell_lt p0
      have s0 : w24.cell? ⟨w22.heap.size, 0, none⟩ = some (.slice sa yn sc) := by rw [hW24]; exact (by first | assumption | exact cell_new (by with_reducible first | rfl | (simp; done) | (simp; omega)) rfl | (repeat (first | assumption | exact cell_new (by with_reducible first | rfl | (simp; done) | (simp; omega)) rfl | refine cell_alloc ?_ _ | refine cell_drew ?_ | refine cell_drewN ?_ _ | refine cell_far ?_ (by simp) _ | (refine cell_far ?_ (by simp <;> omega) _))) | simp [go_sem, *])
      have zs0 := cell_lt s0
      have m0 : w24.cell? ⟨w23.heap.size, 0, none⟩ = some (.slice ma xn mc) := by rw [hW24]; exact (by first | assumption | exact cell_new (by with_reducible first | rfl | (simp; done) | (simp; omega)) rfl | (repeat (first | assumption | exact cell_new (by with_reducible first | rfl | (simp; done) | (simp; omega)) rfl | refine cell_alloc ?_ _ | refine cell_drew ?_ | refine cell_drewN ?_ _ | refine cell_far ?_ (by simp) _ | (refine cell_far ?_ (by simp <;> omega) _))) | simp [go_sem, *])
      have zm0 := cell_lt m0
      have hB : Below w.heap.size w w24 := by rw [hW24]; repeat (first | exact Below.refl _ _ | exact hB | refine Below.drew ?_ | refine below_drewN ?_ _ | refine bset ?_ (by simp <;> omega) _ | refine bal ?_ _)
      have hk : Below w23.heap.size w23 w24 := by rw [hW24]; repeat (first | exact Below.refl _ _ | exact hBw | refine Below.drew ?_ | refine below_drewN ?_ _ | refine bset ?_ (by simp <;> omega) _ | refine bal ?_ _)
      have hz : w.heap.size ≤ w24.heap.size := hB.size
      clear hW24
      replace MX := Lib.hid (MX.out.keep hk)
      replace MY := Lib.hid (MY.out.keep hk)
      replace MP := Lib.hid (MP.out.keep hk)
      replace MS := Lib.hid (MS.out.keep hk)
      replace MM := Lib.hid (MM.out.keep hk)
      clear hk hBw
      have EQ3 := Lib.hid (show timesG gx (plusG gy (plusG gy gy)) = scaleG (timesG gx gy) 3 from by rw [plus_three MY.out.sz.1]; exact times_scale MX.out.sz.1 MY.out.sz.1 EXY.out 3)
      have EQ4 := Lib.hid (plus_three MY.out.sz.1)
      have hb3 : Bd 2 3 := by unfold Bd; decide
      have OC := Lib.hid (fun W => of_c 3 W (by decide) (by decide))
      have SC1 := Lib.hid (fun u V (q : Below w24.heap.size w24 V) (hu : IsInt V u 3) => Mt.scale (MP.out.keep q) hu hb3 (by decide) (by decide) (show (timesG gx gy).length = xn from by rw [times_len]; exact HXN.out.symm))
      have SC2 := Lib.hid (fun u V (q : Below w24.heap.size w24 V) (hu : IsInt V u 3) => Mt.scale (MY.out.keep q) hu hb3 (by decide) (by decide) HYN.out.symm)
      have HS := Lib.hid (show ∀ V, Below w24.heap.size w24 V → V.cell? ⟨w3.heap.size, 0, none⟩ = some (.slice ya yn yc) ∧ V.cell? ⟨w7.heap.size, 0, none⟩ = some (.slice pa xn pc) ∧ V.cell? ⟨w22.heap.size, 0, none⟩ = some (.slice sa yn sc) ∧ V.cell? ⟨w23.heap.size, 0, none⟩ = some (.slice ma xn mc) from fun V q => ⟨bkeep q y0, bkeep q p0, bkeep q s0, bkeep q m0⟩)
      have hBw := Below.refl w24.heap.size w24
      clear hb3
      go_region_held3 (fun V => V.cell? ⟨w3.heap.size, 0, none⟩ = some (.slice ya yn yc) ∧ V.cell? ⟨w7.heap.size, 0, none⟩ = some (.slice pa xn pc) ∧ V.cell? ⟨w22.heap.size, 0, none⟩ = some (.slice sa yn sc) ∧ V.cell? ⟨w23.heap.size, 0, none⟩ = some (.slice ma xn mc))
        (first | (refine HS.out _ ?_; (repeat (first | exact Below.refl _ _ | exact hBw | refine Below.drew ?_ | refine below_drewN ?_ _ | refine bset ?_ (by simp <;> omega) _ | refine bal ?_ _)); done) | fail)
        (first
        | (go_at_call 27; (with_reducible refine (OC.out _).mono ?_); rintro e w25 ⟨⟨ov, rfl, hov⟩, hb25⟩; (have hBd : Below w24.heap.size w24 w25 := bthen (by repeat (first | exact Below.refl _ _ | exact hBw | refine Below.drew ?_ | refine below_drewN ?_ _ | refine bset ?_ (by simp <;> omega) _ | refine bal ?_ _)) hb25; clear hBw; have hBw := hBd; clear hBd); have HO25 := Lib.hid hov; have hy25 := Below.refl w25.heap.size w25; obtain ⟨n25, a25, c25, l25, rfl, -⟩ := hov; unfold iv at *)
        | (go_at_call 26; (with_reducible refine (SC1.out _ _ ?_ (HO25.out.keep ?_)).mono ?_); (repeat (first | exact Below.refl _ _ | exact hBw | refine Below.drew ?_ | refine below_drewN ?_ _ | refine bset ?_ (by simp <;> omega) _ | refine bal ?_ _)); (repeat (first | exact Below.refl _ _ | exact hy25 | refine Below.drew ?_ | refine below_drewN ?_ _ | refine bset ?_ (by simp <;> omega) _ | refine bal ?_ _)); rintro e w26 ⟨⟨ua, uc, rfl, hm⟩, hb26⟩; (have hBd : Below w24.heap.size w24 w26 := bthen (by repeat (first | exact Below.refl _ _ | exact hBw | refine Below.drew ?_ | refine below_drewN ?_ _ | refine bset ?_ (by simp <;> omega) _ | refine bal ?_ _)) hb26; clear hBw; have hBw := hBd; clear hBd); have MU := Lib.hid hm; have MM26 := Lib.hid (MM.out.keep hBw); have hy26 := Below.refl w26.heap.size w26; clear hm)
        | (go_at_call 24; (with_reducible refine (Mt.same (MM26.out.keep ?_) (MU.out.keep ?_) EQ3.out).mono ?_); (repeat (first | exact Below.refl _ _ | exact hy26 | refine Below.drew ?_ | refine below_drewN ?_ _ | refine bset ?_ (by simp <;> omega) _ | refine bal ?_ _)); (repeat (first | exact Below.refl _ _ | exact hy26 | refine Below.drew ?_ | refine below_drewN ?_ _ | refine bset ?_ (by simp <;> omega) _ | refine bal ?_ _)); rintro e w27 ⟨rfl, hb27⟩; (have hBd : Below w24.heap.size w24 w27 := bthen (by repeat (first | exact Below.refl _ _ | exact hBw | refine Below.drew ?_ | refine below_drewN ?_ _ | refine bset ?_ (by simp <;> omega) _ | refine bal ?_ _)) hb27; clear hBw; have hBw := hBd; clear hBd))
        | (go_at_call 26; (with_reducible refine (SC2.out _ _ ?_ (HO25.out.keep ?_)).mono ?_); (repeat (first | exact Below.refl _ _ | exact hBw | refine Below.drew ?_ | refine below_drewN ?_ _ | refine bset ?_ (by simp <;> omega) _ | refine bal ?_ _)); (repeat (first | exact Below.refl _ _ | exact hy25 | refine Below.drew ?_ | refine below_drewN ?_ _ | refine bset ?_ (by simp <;> omega) _ | refine bal ?_ _)); rintro e w28 ⟨⟨va, vc, rfl, hm⟩, hb28⟩; (have hBd : Below w24.heap.size w24 w28 := bthen (by repeat (first | exact Below.refl _ _ | exact hBw | refine Below.drew ?_ | refine below_drewN ?_ _ | refine bset ?_ (by simp <;> omega) _ | refine bal ?_ _)) hb28; clear hBw; have hBw := hBd; clear hBd); have MV := Lib.hid hm; have MS28 := Lib.hid (MS.out.keep hBw); have hy28 := Below.refl w28.heap.size w28; clear hm)
        | (go_at_call 24; (with_reducible refine (Mt.same (MS28.out.keep ?_) (MV.out.keep ?_) EQ4.out).mono ?_); (repeat (first | exact Below.refl _ _ | exact hy28 | refine Below.drew ?_ | refine below_drewN ?_ _ | refine bset ?_ (by simp <;> omega) _ | refine bal ?_ _)); (repeat (first | exact Below.refl _ _ | exact hy28 | refine Below.drew ?_ | refine below_drewN ?_ _ | refine bset ?_ (by simp <;> omega) _ | refine bal ?_ _)); rintro e w29 ⟨rfl, hb29⟩; (have hBd : Below w24.heap.size w24 w29 := bthen (by repeat (first | exact Below.refl _ _ | exact hBw | refine Below.drew ?_ | refine below_drewN ?_ _ | refine bset ?_ (by simp <;> omega) _ | refine bal ?_ _)) hb29; clear hBw; have hBw := hBd; clear hBd))
        | fail)
      all_goals
        have x0 := bkeep hBw x0
        have y0 := bkeep hBw y0
        have p0 := bkeep hBw p0
        have hB := bthen hB hBw
        have hz := hB.size
        have hk := hBw
        replace MX := Lib.hid (MX.out.keep hk)
        replace MY := Lib.hid (MY.out.keep hk)
        replace MP := Lib.hid (MP.out.keep hk)
        clear hBw hk HS SC1 SC2 OC HO25 MU MV MM MS MM26 MS28 m0 s0
        have hBw := Below.refl w29.heap.size w29
        have TC := Lib.hid (fun V (q : Below w29.heap.size w29 V) => Mt.colsC (MY.out.keep q) HCX.out.2)
        go_wp2_with fail
        (with_reducible refine (TC.out _ ?_).mono ?_); (repeat (first | exact Below.refl _ _ | exact hBw | refine Below.drew ?_ | refine below_drewN ?_ _ | refine bset ?_ (by simp <;> omega) _ | refine bal ?_ _))
        rintro e w30 ⟨rfl, hb30⟩
        have hk : Below w29.heap.size w29 w30 := bthen (by repeat (first | exact Below.refl _ _ | exact hBw | refine Below.drew ?_ | refine below_drewN ?_ _ | refine bset ?_ (by simp <;> omega) _ | refine bal ?_ _)) hb30
        have x0 : w30.cell? ⟨w2.heap.size, 0, none⟩ = some (.slice xa xn xc) := bkc hb30
        have zx0 := cell_lt x0
        have y0 : w30.cell? ⟨w3.heap.size, 0, none⟩ = some (.slice ya yn yc) := bkc hb30
        have zy0 := cell_lt y0
        have p0 : w30.cell? ⟨w7.heap.size, 0, none⟩ = some (.slice pa xn pc) := bkc hb30
        have zp0 := cell_lt p0
        have hB : Below w.heap.size w w30 := bthen (by repeat (first | exact Below.refl _ _ | exact hB | refine Below.drew ?_ | refine below_drewN ?_ _ | refine bset ?_ (by simp <;> omega) _ | refine bal ?_ _)) hb30
        have hz : w.heap.size ≤ w30.heap.size := hB.size
        clear TC hBw hb30
        have hBw := Below.refl w30.heap.size w30
        replace MX := Lib.hid (MX.out.keep hk)
        replace MY := Lib.hid (MY.out.keep hk)
        replace MP := Lib.hid (MP.out.keep hk)
        clear hk
        by_cases hvy : nv = cy
        rotate_left
        · have hI : ((nv : Int) != (cy : Int)) = true := by simp; omega
          clear hvy
          go_wp2
          go_ret
          exact ⟨rfl, by repeat (first | exact Below.refl _ _ | exact hB | refine Below.drew ?_ | refine below_drewN ?_ _ | refine bset ?_ (by simp <;> omega) _ | refine bal ?_ _)⟩
        · have hI : ((nv : Int) != (cy : Int)) = false := by simp; omega
          have hy0 := Lib.hid (And.intro MY.out.sz.1 MY.out.rc)
          have HVY := Lib.hid (show v.length = cols gy from by rw [HNV.out, HCX.out.2]; exact hvy)
          clear hvy
          have LV2 := Lib.hid (fun V (q : Below w30.heap.size w30 V) => LV.out V (bthen hB q))
          have AP := Lib.hid (fun u V (q : Below w30.heap.size w30 V) (hu : PRow 0 V u v) => Mt.apply (MY.out.keep q) hu HVY.out HBD.out.2.2.2 (by decide) HYN.out.symm)
          have HS := Lib.hid (show ∀ V, Below w30.heap.size w30 V → V.cell? ⟨w3.heap.size, 0, none⟩ = some (.slice ya yn yc) from fun V q => bkeep q y0)
          go_wp2
          go_region_held3 (fun V => V.cell? ⟨w3.heap.size, 0, none⟩ = some (.slice ya yn yc))
            (first | (refine HS.out _ ?_; (repeat (first | exact Below.refl _ _ | exact hBw | refine Below.drew ?_ | refine below_drewN ?_ _ | refine bset ?_ (by simp <;> omega) _ | refine bal ?_ _)); done) | fail)
            (first
            | (go_at_call 29; (with_reducible refine (LV2.out _ ?_).mono ?_); (repeat (first | exact Below.refl _ _ | exact hBw | refine Below.drew ?_ | refine below_drewN ?_ _ | refine bset ?_ (by simp <;> omega) _ | refine bal ?_ _)); rintro e w31 ⟨⟨lv, rfl, hlv⟩, hb31⟩; (have hBd : Below w30.heap.size w30 w31 := bthen (by repeat (first | exact Below.refl _ _ | exact hBw | refine Below.drew ?_ | refine below_drewN ?_ _ | refine bset ?_ (by simp <;> omega) _ | refine bal ?_ _)) hb31; clear hBw; have hBw := hBd; clear hBd); have HL := Lib.hid (show PRow 0 w31 lv v from hlv.row.rebase (Nat.zero_le _)); obtain ⟨la', lc', rfl⟩ := hlv.ex; rw [HNV.out] at HL ⊢; have hy31 := Below.refl w31.heap.size w31; clear hlv)
            | (go_at_call 28; (with_reducible refine (AP.out _ _ ?_ (prow_keep HL.out ?_)).mono ?_); (repeat (first | exact Below.refl _ _ | exact hBw | refine Below.drew ?_ | refine below_drewN ?_ _ | refine bset ?_ (by simp <;> omega) _ | refine bal ?_ _)); (repeat (first | exact Below.refl _ _ | exact hy31 | refine Below.drew ?_ | refine below_drewN ?_ _ | refine bset ?_ (by simp <;> omega) _ | refine bal ?_ _)); rintro e w32 ⟨⟨oa, oc, rfl, ho, hol, hob⟩, hb32⟩; (have hBd : Below w30.heap.size w30 w32 := bthen (by repeat (first | exact Below.refl _ _ | exact hBw | refine Below.drew ?_ | refine below_drewN ?_ _ | refine bset ?_ (by simp <;> omega) _ | refine bal ?_ _)) hb32; clear hBw; have hBw := hBd; clear hBd); have HO := Lib.hid (And.intro ho (And.intro hol hob)); clear ho hol hob)
            | fail)
          all_goals
            have x0 := bkeep hBw x0
            have y0 := bkeep hBw y0
            have p0 := bkeep hBw p0
            have hB := bthen hB hBw
            have hz := hB.size
            have hk := hBw
            replace MX := Lib.hid (MX.out.keep hk)
            replace MP := Lib.hid (MP.out.keep hk)
            clear hBw hk HS AP LV2 HL y0 MY
            have hBw := Below.refl w32.heap.size w32
            have TC := Lib.hid (fun V (q : Below w32.heap.size w32 V) => Mt.apply (MX.out.keep q) (HO.out.1.keep lims_int q) (by rw [HO.out.2.1, HCX.out.1, HE1.out]) HO.out.2.2 (by decide) HXN.out.symm)
            go_wp2_with fail
            (with_reducible refine (TC.out _ ?_).mono ?_); (repeat (first | exact Below.refl _ _ | exact hBw | refine Below.drew ?_ | refine below_drewN ?_ _ | refine bset ?_ (by simp <;> omega) _ | refine bal ?_ _))
            rintro e w33 ⟨⟨ta2, tc2, rfl, ho, hol, hob⟩, hb33⟩
            have hk : Below w32.heap.size w32 w33 := bthen (by repeat (first | exact Below.refl _ _ | exact hBw | refine Below.drew ?_ | refine below_drewN ?_ _ | refine bset ?_ (by simp <;> omega) _ | refine bal ?_ _)) hb33
            have x0 : w33.cell? ⟨w2.heap.size, 0, none⟩ = some (.slice xa xn xc) := bkc hb33
            have zx0 := cell_lt x0
            have p0 : w33.cell? ⟨w7.heap.size, 0, none⟩ = some (.slice pa xn pc) := bkc hb33
            have zp0 := cell_lt p0
            have hB : Below w.heap.size w w33 := bthen (by repeat (first | exact Below.refl _ _ | exact hB | refine Below.drew ?_ | refine below_drewN ?_ _ | refine bset ?_ (by simp <;> omega) _ | refine bal ?_ _)) hb33
            have hz : w.heap.size ≤ w33.heap.size := hB.size
            clear TC hBw hb33
            have hBw := Below.refl w33.heap.size w33
            have HA := Lib.hid (And.intro ho hol)
            replace MX := Lib.hid (MX.out.keep hk)
            replace MP := Lib.hid (MP.out.keep hk)
            clear ho hol hob hk HO
            have LV2 := Lib.hid (fun V (q : Below w33.heap.size w33 V) => LV.out V (bthen hB q))
            have AP := Lib.hid (fun u V (q : Below w33.heap.size w33 V) (hu : PRow 0 V u v) => Mt.apply (MP.out.keep q) hu (by rw [times_cols MX.out.sz.1]; exact HVY.out) HBD.out.2.2.2 (by decide) (show (timesG gx gy).length = xn from by rw [times_len]; exact HXN.out.symm))
            have HS := Lib.hid (show ∀ V, Below w33.heap.size w33 V → V.cell? ⟨w7.heap.size, 0, none⟩ = some (.slice pa xn pc) from fun V q => bkeep q p0)
            have EQ5 := Lib.hid (app_times MX.out.sz.1 hy0.out.1 MX.out.rc hy0.out.2 EXY.out HVY.out)
            go_wp2
            go_region_held3 (fun V => V.cell? ⟨w7.heap.size, 0, none⟩ = some (.slice pa xn pc))
              (first | (refine HS.out _ ?_; (repeat (first | exact Below.refl _ _ | exact hBw | refine Below.drew ?_ | refine below_drewN ?_ _ | refine bset ?_ (by simp <;> omega) _ | refine bal ?_ _)); done) | fail)
              (first
              | (go_at_call 29; (with_reducible refine (LV2.out _ ?_).mono ?_); (repeat (first | exact Below.refl _ _ | exact hBw | refine Below.drew ?_ | refine below_drewN ?_ _ | refine bset ?_ (by simp <;> omega) _ | refine bal ?_ _)); rintro e w34 ⟨⟨lv, rfl, hlv⟩, hb34⟩; (have hBd : Below w33.heap.size w33 w34 := bthen (by repeat (first | exact Below.refl _ _ | exact hBw | refine Below.drew ?_ | refine below_drewN ?_ _ | refine bset ?_ (by simp <;> omega) _ | refine bal ?_ _)) hb34; clear hBw; have hBw := hBd; clear hBd); have HL := Lib.hid (show PRow 0 w34 lv v from hlv.row.rebase (Nat.zero_le _)); obtain ⟨la', lc', rfl⟩ := hlv.ex; rw [HNV.out] at HL ⊢; have hy34 := Below.refl w34.heap.size w34; clear hlv)
              | (go_at_call 28; (with_reducible refine (AP.out _ _ ?_ (prow_keep HL.out ?_)).mono ?_); (repeat (first | exact Below.refl _ _ | exact hBw | refine Below.drew ?_ | refine below_drewN ?_ _ | refine bset ?_ (by simp <;> omega) _ | refine bal ?_ _)); (repeat (first | exact Below.refl _ _ | exact hy34 | refine Below.drew ?_ | refine below_drewN ?_ _ | refine bset ?_ (by simp <;> omega) _ | refine bal ?_ _)); rintro e w35 ⟨⟨oa, oc, rfl, ho, hol, hob⟩, hb35⟩; (have hBd : Below w33.heap.size w33 w35 := bthen (by repeat (first | exact Below.refl _ _ | exact hBw | refine Below.drew ?_ | refine below_drewN ?_ _ | refine bset ?_ (by simp <;> omega) _ | refine bal ?_ _)) hb35; clear hBw; have hBw := hBd; clear hBd); have HO := Lib.hid (And.intro ho hol); clear ho hol hob)
              | fail)
            all_goals
              have HA2 := Lib.hid (HA.out.1.keep lims_int hBw)
              have hB := bthen hB hBw
              have HO2 := HO.out.1
              rw [← EQ5.out] at HO2
              have HO3 := Lib.hid HO2
              have HLN := HA.out.2
              obtain ⟨L, hL⟩ : ∃ L, applyG gx (applyG gy v) = L := ⟨_, rfl⟩
              rw [hL] at HA2 HO3 HLN
              have HN := Lib.hid HLN
              clear HO2 HLN hL HA HO HS AP LV2 HL p0 x0 zp0 zx0 hBw hI
              have hBw := Below.refl w35.heap.size w35
              have hnn : ((xn : Int) != (xn : Int)) = false := by simp
              go_wp2
              have hx16 : xn ≤ 16 := by rw [HXN.out]; exact MX.out.sz.2.2.1
              go_loopw [224] (fun x wr => ∃ j : Nat, j ≤ xn ∧ x = .int .i64 j ∧ Below w35.heap.size w35 wr) (fun x _ => xn - (intOf x).toNat)
              case atStart => exact ⟨0, Nat.zero_le _, rfl, by repeat (first | exact Below.refl _ _ | exact hBw | refine Below.drew ?_ | refine below_drewN ?_ _ | refine bset ?_ (by simp <;> omega) _ | refine bal ?_ _)⟩
              case round =>
                obtain ⟨j, hj, rfl, hBr⟩ := hrel
                by_cases hlt : j < xn
                · have hltI : (j : Int) < (xn : Int) := by omega
                  obtain ⟨a', c', he, -, vr⟩ := HA2.out.view
                  obtain ⟨rfl, -, rfl⟩ := Value.slice.inj he
                  obtain ⟨b', d', he2, -, vs⟩ := HO3.out.view
                  obtain ⟨rfl, -, rfl⟩ := Value.slice.inj he2
                  obtain ⟨rb, ro, n3, a3, l3, c3, rfl, r0, r1, hi⟩ := vr j (by rw [HN.out]; exact hlt)
                  obtain ⟨sb, so, n4, a4, l4, c4, rfl, s0, s1, hi2⟩ := vs j (by rw [HN.out]; exact hlt)
                  have CC := Lib.hid (fun V (q : Below wr.heap.size wr V) => cmp_same (hi.keep (bthen hBr q)) (hi2.keep (bthen hBr q)))
                  have HS := Lib.hid (show ∀ W, Below wr.heap.size wr W → W.cell? ⟨rb, ro + j * 2, none⟩ = some (.bool n3) ∧ W.cell? ⟨rb, ro + j * 2 + 1, none⟩ = some (.slice a3 l3 c3) ∧ W.cell? ⟨sb, so + j * 2, none⟩ = some (.bool n4) ∧ W.cell? ⟨sb, so + j * 2 + 1, none⟩ = some (.slice a4 l4 c4) from fun W h => ⟨bkeep (bthen hBr h) r0, bkeep (bthen hBr h) r1, bkeep (bthen hBr h) s0, bkeep (bthen hBr h) s1⟩)
                  have hBc := Below.refl wr.heap.size wr
                  obtain ⟨q5, q6, q7, q8⟩ := HS.out wr hBc
                  have zz5 := cell_lt q5
                  have zz7 := cell_lt q7
                  clear hi hi2 r0 r1 s0 s1 vr vs he he2
                  go_wp2
                  go_region_held3 (fun w' => w'.cell? ⟨rb, ro + j * 2, none⟩ = some (.bool n3) ∧ w'.cell? ⟨rb, ro + j * 2 + 1, none⟩ = some (.slice a3 l3 c3) ∧ w'.cell? ⟨sb, so + j * 2, none⟩ = some (.bool n4) ∧ w'.cell? ⟨sb, so + j * 2 + 1, none⟩ = some (.slice a4 l4 c4))
                    (first | (refine HS.out _ ?_; (repeat (first | exact Below.refl _ _ | exact hBc | refine Below.drew ?_ | refine below_drewN ?_ _ | refine bset ?_ (by simp <;> omega) _ | refine bal ?_ _)); done) | fail)
                    (first
                      | (go_at_call 13; (with_reducible refine (CC.out _ ?_).mono ?_); (repeat (first | exact Below.refl _ _ | exact hBc | refine Below.drew ?_ | refine below_drewN ?_ _ | refine bset ?_ (by simp <;> omega) _ | refine bal ?_ _)); rintro e w36 ⟨rfl, hb36⟩; (have hBd : Below wr.heap.size wr w36 := bthen (by repeat (first | exact Below.refl _ _ | exact hBc | refine Below.drew ?_ | refine below_drewN ?_ _ | refine bset ?_ (by simp <;> omega) _ | refine bal ?_ _)) hb36; clear hBc; have hBc := hBd; clear hBd))
                      | fail)
                  all_goals
                    have hB5 := bthen hBr hBc
                    clear CC q5 q6 q7 q8
                    go_wp2
                    exact ⟨⟨j + 1, hlt, by go_num, by repeat (first | exact Below.refl _ _ | exact hB5 | refine Below.drew ?_ | refine below_drewN ?_ _ | refine bset ?_ (by simp <;> omega) _ | refine bal ?_ _)⟩, meas hlt (by go_num) rfl⟩
                · obtain rfl : j = xn := by omega
                  have hltI : ¬ (j : Int) < (j : Int) := by omega
                  have hBf := bthen hB hBr
                  go_wp2
                  go_ret
                  exact ⟨rfl, by repeat (first | exact Below.refl _ _ | exact hBf | refine Below.drew ?_ | refine below_drewN ?_ _ | refine bset ?_ (by simp <;> omega) _ | refine bal ?_ _)⟩
theorem matrixRing_u (va : Value) (a : Grid) (vb : Value) (b : Grid) (vc : Value) (c : Grid) (vv : Value) (v : List Int) (w : World) (ha : GridI w va a ∧ sumG a ≤ 1048576 ∧ a.length ≤ 1048576) (hb : GridI w vb b ∧ sumG b ≤ 1048576 ∧ b.length ≤ 1048576) (hc : GridI w vc c ∧ sumG c ≤ 1048576 ∧ c.length ≤ 1048576) (hv : RowI w vv v ∧ v.length ≤ 1048576) :
    Calls Tryd.prog 5 #[va, vb, vc, vv] w fun e w' => e = .returned (.bool true) ∧ Below w.heap.size w w' :=
  matrixRing_h va vb vc vv a b c v w ha.1 hb.1 hc.1 hv.1 ha.2.2 hb.2.2 hc.2.2 (fun k hk => Nat.le_trans (sumG_le hk) ha.2.1) (fun k hk => Nat.le_trans (sumG_le hk) hb.2.1) (fun k hk => Nat.le_trans (sumG_le hk) hc.2.1) hv.2
end Go.Proofs.YthaohpfbengabaaDoor

