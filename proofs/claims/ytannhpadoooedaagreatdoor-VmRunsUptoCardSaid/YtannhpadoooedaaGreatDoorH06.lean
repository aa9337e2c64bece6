/- Texts of this seat, laid together: RvD, RvE. Each opens with its own remark, which says what it proves, and under which conditions. -/
import Derived.Test.YtannhpadoooedaaGreatDoorH05
import Derived.Test.YtannhpadoooedaaGreatDoorG36
import Derived.Laws.AppendOwnNone
import Derived.Deep.DeepFit
import Derived.Test.YtannhpadoooedaaGreatDoorG37
set_option linter.unusedVariables false
set_option linter.unusedSimpArgs false
/- The reference's machine: Start, Outs. -/
namespace Go.Proofs.YtannhpadoooedaaGreatDoor
open Num
open Go.ChangeShapes Go.WideShapes Go.ChangeAt Go.RowKit
set_option linter.unusedVariables false
set_option linter.unusedSimpArgs false
attribute [local go_sem ↓] Go.wp_at_zero Go.wp_at_succ
abbrev RowR (base : Nat) := RowO IsRef 44 base
/-- the cells of a row, as the source of an append -/
theorem IsRow.src {R : World → Value → Int → Prop} {E : TypeId} {base c : Nat} {w : World} {ad : Addr} {l : List Int} (hR : Lims R) (h : IsRow R E base w (.slice (some ad) l.length c) l) (B : Nat) :
    ∃ xs : List Value, xs.length = l.length * 2 ∧ (∀ (W : World), Below w.heap.size w W → ∀ j u, xs[j]? = some u → W.cell? (ad.add j) = some u) ∧ (∀ u ∈ xs, u.oneCell' = true) ∧
      Hid (∀ v' w', Below w.heap.size w w' → w'.ownsRow B E 2 v' l.length xs → RowO R E B w' v' l) := by
  obtain ⟨a, c', he, h2, h3, h4⟩ := h
  obtain ⟨rfl, -, rfl⟩ := Value.slice.inj he
  rcases h4 with rfl | ⟨b, off, h, hb, ht, hi⟩
  · exact ⟨[], by simp, fun W hW j u hj => by simp at hj, fun u hu => by simp at hu, Lib.hid fun v' w' _ hO => ⟨[], hO, fun k hk => absurd hk (by simp)⟩⟩
  · cases h
    refine ⟨cellsAt w b off (l.length * 2), cellsAt_len _ _ _ _, fun W hW => cellsAt_at hW fun j hj => ?_, cellsAt_all (intsF_cells hi), Lib.hid fun v' w' hb' hO => ?_⟩
    · obtain ⟨v, hv, _⟩ := intsF_cells hi j hj; exact ⟨v, hv⟩
    · refine ⟨_, hO, fun k hk => ?_⟩
      obtain ⟨nb, a, len, c, h1, h2, h3⟩ := hi k hk
      exact ⟨nb, a, len, c, cellsAt_get (by omega) h1, cellsAt_get (by omega) h2, hR _ _ _ _ h3 (.of_below hb')⟩
theorem IsRow.src0 {R : World → Value → Int → Prop} {E : TypeId} {base c : Nat} {w : World} {l : List Int} (h : IsRow R E base w (.slice none l.length c) l) : l = [] := by
  obtain ⟨a, c', he, h2, h3, h4⟩ := h
  obtain ⟨rfl, -, rfl⟩ := Value.slice.inj he
  rcases h4 with h4 | ⟨b, off, h, _⟩
  · exact h4
  · cases h
theorem RowO.nil0 {R : World → Value → Int → Prop} {E : TypeId} {base c : Nat} {w : World} {l : List Int} (h : RowO R E base w (.slice none l.length c) l) : l = [] ∧ c = 0 := by
  obtain ⟨xs, ⟨hl, h1⟩, h2⟩ := h
  rcases h1 with ⟨he, h0⟩ | ⟨g, cap, cur, he, _⟩
  · obtain ⟨_, h, rfl⟩ := Value.slice.inj he
    exact ⟨List.length_eq_zero_iff.1 h0, rfl⟩
  · obtain ⟨h, _⟩ := Value.slice.inj he
    cases h
theorem RowO.makeR (w : World) (n : Nat) (hn : n ≤ maxLen) : RowO IsRef 44 w.heap.size (w.alloc (.cells (zcel n) 44)) (.slice (some ⟨w.heap.size, 0, none⟩) n n) (List.replicate n 0) := by
  have hs : (zcel n).size = n * 2 := by simp [zcel, size_madeCells]
  have hl : (zcel n).toList.length = n * 2 := by rw [Array.length_toList, hs]
  refine ⟨(zcel n).toList, ⟨by rw [List.length_replicate]; exact hl, .inr ⟨w.heap.size, n, zcel n, by rw [List.length_replicate], Nat.le_refl _, (MapKept.heap_alloc w _).1, by rw [List.length_replicate]; exact Nat.le_refl _, hn, hs, ?_⟩⟩, fun k hk => ?_⟩
  · rw [List.length_replicate, ← hl, List.take_length]
  · rw [List.length_replicate] at hk
    obtain ⟨h1, h2⟩ := zcel_at hk
    refine ⟨false, none, 0, 0, by rw [Array.getElem?_toList]; exact h1, by rw [Array.getElem?_toList]; exact h2, ?_⟩
    have : (List.replicate n (0 : Int)).getD k 0 = 0 := by simp [hk]
    rw [this]; exact isRef_zero _
theorem startG_take {g : Grid} {R m k : Nat} (hk : k < g.length) : (startG g R m).take (k + 1) = (startG g R m).take k ++ [g[k]] := by
  unfold startG
  rw [List.take_succ_eq_append_getElem (by simp; omega), List.getElem_append_left hk]
theorem startG_take0 {g : Grid} {R m k : Nat} (hk : g.length ≤ k) (hk2 : k < R) : (startG g R m).take (k + 1) = (startG g R m).take k ++ [List.replicate m 0] := by
  unfold startG
  rw [List.take_succ_eq_append_getElem (by simp; omega), List.getElem_append_right hk]
  simp
set_option maxRecDepth 100000 in
set_option maxHeartbeats 4000000 in
theorem rstart_c (ins : Int) (R : Nat) (ca oa : Option Addr) (cl cc ol oc : Nat) (vg : Value) (g : Grid) (m : Nat) (w : World) (hg : IsL 89 (RowR 0) 0 w vg g) (h0 : 0 < g.length) (hR : g.length ≤ R) (hR2 : R ≤ 128) (hm : Rect m g) (hm2 : m ≤ 4096) :
    Calls Tryz.prog 35 #[.agg #[.int .i64 ins, .int .i64 (R : Int), .slice ca cl cc, .slice oa ol oc], vg] w fun e w' => ∃ v, e = .returned v ∧ OwnL 89 (RowR w.heap.size) w w' v (startG g R m) := by
  obtain ⟨ga, gc, rfl, hgc, hv⟩ := hg.view
  have HV := Lib.hid hv
  have HM := Lib.hid (fun k (hk : k < g.length) => show g[k].length = m by have := hm k hk; rwa [show g.getD k [] = g[k] by simp [hk]] at this)
  clear hg hv hm
  have hB := Below.refl w.heap.size w
  have HSL := Lib.hid (startG_len (n := m) hR)
  obtain ⟨i0, z0, hi, hz0, hz1, hz2, hz3⟩ := elBlk.info
  go_enter Tryz.func35, Tryz.ntmps35
  go_wp2
  refine wp_name fun w0 hW0 => ?_
  have p1 : w0.cell? ⟨w.heap.size, 1, none⟩ = some (.int .i64 (R : Int)) := by rw [hW0]; exact (by first | assumption | exact cell_new (by with_reducible first | rfl | (simp; done) | (simp; omega)) rfl | (repeat (first | assumption | exact cell_new (by with_reducible first | rfl | (simp; done) | (simp; omega)) rfl | refine cell_alloc ?_ _ | refine cell_drew ?_ | refine cell_drewN ?_ _ | refine cell_far ?_ (by simp) _ | (refine cell_far ?_ (by simp <;> omega) _))) | simp [go_sem, *])
  have zp1 := cell_lt p1
  have hB : Below w.heap.size w w0 := by rw [hW0]; repeat (first | exact Below.refl _ _ | exact hB | refine Below.drew ?_ | refine below_drewN ?_ _ | refine bset ?_ (by simp <;> omega) _ | refine bal ?_ _)
  have hz : w.heap.size ≤ w0.heap.size := hB.size
  clear hW0
  go_loopw [5, 6] (fun v x wr => ∃ k : Nat, k ≤ R ∧ x = .int .i64 k ∧ Hid (OwnL 89 (RowR w.heap.size) w0 wr v ((startG g R m).take k))) (fun _ x _ => R - (intOf x).toNat)
  case atStart => exact ⟨0, Nat.zero_le _, rfl, Lib.hid (by rw [List.take_zero]; exact OwnL.nil _ _ (Below.refl _ _))⟩
  case round =>
    obtain ⟨k, hk, rfl, hO⟩ := hrel
    have hB0 := hO.out.bel
    have p1 := bkeep hB0 p1
    by_cases hlt : k < R
    · have hltI : (k : Int) < (R : Int) := by omega
      have hlen : ((startG g R m).take k).length = k := by rw [List.length_take, HSL.out]; omega
      obtain ⟨va, vc, hvv⟩ := hO.out.ex
      rw [hlen] at hvv
      subst hvv
      have HLEN := Lib.hid hlen
      have hBr := bthen hB hB0
      clear hlen
      by_cases hkg : k < g.length
      · have hkgI : (k : Int) < (g.length : Int) := by omega
        obtain ⟨gb, go, u, rfl, hu, hrow⟩ := HV.out k hkg
        have HT := Lib.hid (startG_take (R := R) (m := m) hkg)
        have hL := HM.out k hkg
        obtain ⟨l, hl⟩ : ∃ l, g[k]'hkg = l := ⟨_, rfl⟩
        rw [hl] at hrow hL HT
        have hu2 := bkeep hBr hu
        have zgb := cell_lt hu2
        obtain ⟨ra, rc, hru⟩ : ∃ a c, u = .slice a l.length c := by obtain ⟨a, c, h⟩ := hrow.ex; exact ⟨a, c, h⟩
        subst hru
        clear hl hu
        have hmk : k + 1 ≤ 128 := by omega
        rw [hL] at hu2
        have HL := Lib.hid hL
        clear hL
        obtain ⟨wq, hwq⟩ : ∃ wq, wr = wq := ⟨_, rfl⟩
        rw [hwq] at hO hBr hu2 p1 zgb ⊢
        clear hwq hB0
        have ho : (wq.alloc (.cells #[] 44)).ownsRow wq.heap.size 44 2 (.slice (some ⟨wq.heap.size, 0, none⟩) 0 0) 0 [] := ⟨rfl, .inr ⟨wq.heap.size, 0, #[], rfl, Nat.le_refl _, (MapKept.heap_alloc wq _).1, Nat.le_refl _, by unfold maxLen; omega, rfl, rfl⟩⟩
        cases ra with
        | none =>
          obtain ⟨hl0, rfl⟩ := hrow.nil0
          have HL0 := Lib.hid hl0
          obtain rfl : m = 0 := by rw [← HL.out, hl0]; rfl
          clear hl0 hrow
          have hro : Hid (RowR w.heap.size (wq.alloc (.cells #[] 44)) (.slice (some ⟨wq.heap.size, 0, none⟩) 0 0) l) := Lib.hid (by rw [HL0.out]; exact RowO.rebase (base := wq.heap.size) ⟨[], ho, fun k hk => absurd hk (by simp)⟩ hBr.size)
          go_wp2_with (first
            | (at_builtin; refine wpList_append_own_none (by rfl) _ _ 89 (by rfl) wq.heap.size 44 i0 2 Tryz.underlying89 hi _ 0 [] (by rfl) ho (by rfl) ?_)
            | (at_builtin; (refine appL elBlks (prs_rowO lims_ref _ _) (by decide) (by rfl) (by rfl) (hO.out.below (prs_rowO lims_ref _ _) (bal (bal (Below.refl _ _) _) _)) (hro.out.keep lims_ref (bal (Below.refl _ _) _)) (by rfl) (by rfl) (cell_new (by simp) rfl) (by rw [HLEN.out]; omega) (by rw [HLEN.out]; unfold maxLen; omega) ?_))
            | fail)
          intro v' w8 hO8 hk8
          rw [← HT.out] at hO8
          have HO8 := Lib.hid hO8
          clear hO8 hk8
          go_wp2
          exact ⟨⟨k + 1, by omega, by go_num, HO8⟩, by simp [intOf]; omega⟩
        | some ad =>
          obtain ⟨xs, hx1, hx2, hx3, HX⟩ := IsRow.src lims_ref hrow.row wq.heap.size
          rw [HL.out] at hx1
          have HX := Lib.hid (show ∀ v' w', Below w.heap.size w w' → w'.ownsRow wq.heap.size 44 2 v' m xs → RowR w.heap.size w' v' l from fun v' w' h1 h2 => (HX.out v' w' h1 (by rw [HL.out]; exact h2)).rebase hBr.size)
          clear hrow
          go_wp2_with (first
            | (at_builtin; refine wpList_append_own _ rfl _ _ 89 rfl wq.heap.size 44 i0 z0 2 32 Tryz.underlying89 hi hz0 hz1 hz2 hz3 (by decide) _ 0 [] rfl ho ad m rc xs rfl hx1 (hx2 _ (bal hBr _)) hx3 (by unfold maxLen; omega) (by omega) (by simp) ?_; intro v1 w1 hown hgrow _; have hbq := below_append (wr := wq) (bal (Below.refl _ _) _) ho hgrow; (try simp only [Nat.zero_add, List.nil_append] at hown); have HR1 := Lib.hid (HX.out v1 w1 (bthen hBr hbq) hown); have hO1 := Lib.hid (hO.out.below (prs_rowO lims_ref _ _) hbq); obtain ⟨a1, c1, hv1⟩ := HR1.out.ex; rw [HL.out] at hv1; subst hv1; clear hown hgrow)
            | (at_builtin; (refine appL elBlks (prs_rowO lims_ref _ _) (by decide) (by rfl) (by rfl) (hO1.out.below (prs_rowO lims_ref _ _) (bal (Below.refl _ _) _)) (HR1.out.keep lims_ref (bal (Below.refl _ _) _)) (by rfl) (by rfl) (cell_new (by simp) rfl) (by rw [HLEN.out]; omega) (by rw [HLEN.out]; unfold maxLen; omega) ?_))
            | fail)
          intro v' w8 hO8 hk8
          rw [← HT.out] at hO8
          have HO8 := Lib.hid hO8
          clear hO8 hk8
          go_wp2
          exact ⟨⟨k + 1, by omega, by go_num, HO8⟩, by simp [intOf]; omega⟩
      · have hmk : k + 1 ≤ 128 := by omega
        have hkgI : ¬ (k : Int) < (g.length : Int) := by omega
        obtain ⟨gb, go, u, rfl, hu, hrow⟩ := HV.out 0 h0
        have HT := Lib.hid (startG_take0 (R := R) (m := m) (g := g) (by omega) hlt)
        have hL := HM.out 0 h0
        obtain ⟨ra, rc, hru⟩ : ∃ a c, u = .slice a (g[0]'h0).length c := by obtain ⟨a, c, h⟩ := hrow.ex; exact ⟨a, c, h⟩
        rw [hL] at hru
        subst hru
        have hu2 := bkeep hBr hu
        rw [Nat.add_zero] at hu2
        have zgb := cell_lt hu2
        have h0I : (0 : Int) < (g.length : Int) := by omega
        have hmkk := mkBlk m (by omega)
        clear hu hL hrow
        have HRm := Lib.hid ((RowO.makeR wr m (by unfold maxLen; omega)).rebase hBr.size)
        go_wp2_with (first
          | (at_builtin; (refine appL elBlks (prs_rowO lims_ref _ _) (by decide) (by rfl) (by rfl) (hO.out.below (prs_rowO lims_ref _ _) (bal (bal (Below.refl _ _) _) _)) (HRm.out.keep lims_ref (bal (Below.refl _ _) _)) (by rfl) (by rfl) (cell_new (by simp) rfl) (by rw [HLEN.out]; omega) (by rw [HLEN.out]; unfold maxLen; omega) ?_))
          | fail)
        intro v' w8 hO8 hk8
        rw [← HT.out] at hO8
        have HO8 := Lib.hid hO8
        clear hO8 hk8
        go_wp2
        exact ⟨⟨k + 1, by omega, by go_num, HO8⟩, by simp [intOf]; omega⟩
    · obtain rfl : k = R := by omega
      have HE := Lib.hid (show (startG g k m).take k = startG g k m from List.take_of_length_le (by rw [HSL.out]; omega))
      rw [HE.out] at hO
      go_wp2
      go_ret
      exact ⟨_, rfl, hO.out.rebase hB⟩
end Go.Proofs.YtannhpadoooedaaGreatDoor
/- The reference's machine: Outs. -/
namespace Go.Proofs.YtannhpadoooedaaGreatDoor
open Num
open Go.ChangeShapes Go.WideShapes Go.ChangeAt Go.RowKit
set_option linter.unusedVariables false
set_option linter.unusedSimpArgs false
attribute [local go_sem ↓] Go.wp_at_zero Go.wp_at_succ
set_option maxRecDepth 100000 in
set_option maxHeartbeats 4000000 in
theorem routs_c (ins regs : Int) (ca oa : Option Addr) (cl cc oc : Nat) (outs : List Int) (rb rc : Nat) (g : Grid) (w : World) (hr : RegsR w rb g) (ho : IntsV w oa oc outs) (hos : ∀ k, k < outs.length → 0 ≤ outs.getD k 0 ∧ outs.getD k 0 < g.length) (hol : outs.length ≤ 128) (hgl : g.length ≤ 128) :
    Calls Tryz.prog 39 #[.agg #[.int .i64 ins, .int .i64 regs, .slice ca cl cc, .slice oa outs.length oc], .slice (some ⟨rb, 0, none⟩) g.length rc] w fun e w' => ∃ v, e = .returned v ∧ OwnL 89 (RRow 0) w w' v (outsG outs g) := by
  have HR := Lib.hid hr
  have HO := Lib.hid hos
  have HV := Lib.hid ho
  clear hr hos ho
  have hB := Below.refl w.heap.size w
  go_enter Tryz.func39, Tryz.ntmps39
  go_wp2
  refine wp_name fun w0 hW0 => ?_
  have p3 : w0.cell? ⟨w.heap.size, 3, none⟩ = some (.slice oa outs.length oc) := by rw [hW0]; exact (by first | assumption | exact cell_new (by with_reducible first | rfl | (simp; done) | (simp; omega)) rfl | (repeat (first | assumption | exact cell_new (by with_reducible first | rfl | (simp; done) | (simp; omega)) rfl | refine cell_alloc ?_ _ | refine cell_drew ?_ | refine cell_drewN ?_ _ | refine cell_far ?_ (by simp) _ | (refine cell_far ?_ (by simp <;> omega) _))) | simp [go_sem, *])
  have zp3 := cell_lt p3
  have hB : Below w.heap.size w w0 := by rw [hW0]; repeat (first | exact Below.refl _ _ | exact hB | refine Below.drew ?_ | refine below_drewN ?_ _ | refine bset ?_ (by simp <;> omega) _ | refine bal ?_ _)
  have hz : w.heap.size ≤ w0.heap.size := hB.size
  clear hW0
  go_loopw [5, 6] (fun v x wr => ∃ k : Nat, k ≤ outs.length ∧ x = .int .i64 k ∧ Hid (OwnL 89 (RRow 0) w0 wr v (outsG (outs.take k) g))) (fun _ x _ => outs.length - (intOf x).toNat)
  case atStart => exact ⟨0, Nat.zero_le _, rfl, Lib.hid (OwnL.nil _ _ (Below.refl _ _))⟩
  case round =>
    obtain ⟨k, hk, rfl, hO⟩ := hrel
    have hB0 := hO.out.bel
    have p3 := bkeep hB0 p3
    have hBr := bthen hB hB0
    by_cases hlt : k < outs.length
    · have hltI : (k : Int) < (outs.length : Int) := by omega
      obtain ⟨q1, q2⟩ := HO.out k hlt
      rcases HV.out with h0 | ⟨ob, off, rfl, hcap, hcell⟩
      · rw [h0] at hlt; simp at hlt
      have hc := bkeep hBr (hcell k hlt)
      have zob := cell_lt hc
      obtain ⟨r, hr⟩ : ∃ r : Nat, outs.getD k 0 = r := ⟨(outs.getD k 0).toNat, by omega⟩
      rw [hr] at hc q1 q2
      have hrl : r < g.length := by omega
      obtain ⟨u, hu, hrow⟩ := HR.out.cell r hrl
      have hu2 := bkeep hBr hu
      have zrb := cell_lt hu2
      have HN := Lib.hid (show outsG (outs.take (k + 1)) g = outsG (outs.take k) g ++ [g.getD r []] by
        rw [List.take_succ_eq_append_getElem hlt]
        have e : outs[k] = r := by rw [← hr]; simp [hlt]
        unfold outsG; rw [List.map_append, List.map_singleton, e, Int.toNat_natCast])
      have hlen : (outsG (outs.take k) g).length = k := by simp [outsG]; omega
      obtain ⟨va, vc, hv⟩ := hO.out.ex
      rw [hlen] at hv
      subst hv
      have HLEN := Lib.hid hlen
      have HROW := Lib.hid (hrow.keep lims_ref hBr)
      obtain ⟨ua, uc, hue⟩ : ∃ a c, u = .slice a (g.getD r []).length c := by obtain ⟨a, c, h, _⟩ := hrow; exact ⟨a, c, h⟩
      obtain ⟨row, hrowE⟩ : ∃ row, g.getD r [] = row := ⟨_, rfl⟩
      rw [hrowE] at hue HN HROW
      obtain ⟨ul, hul⟩ : ∃ n, row.length = n := ⟨_, rfl⟩
      rw [hul] at hue
      subst hue
      clear hlen hr hcell hu hrow hul hrowE
      go_wp2_with (first
        | (at_builtin; (refine appL elBlks (prs_row lims_ref _ _) (by decide) (by rfl) (by rfl) (hO.out.below (prs_row lims_ref _ _) (bal (Below.refl _ _) _)) (HROW.out.keep lims_ref (bal (Below.refl _ _) _)) (by rfl) (by rfl) (cell_new (by simp) rfl) (by rw [HLEN.out]; omega) (by rw [HLEN.out]; unfold maxLen; omega) ?_))
        | fail)
      intro v' w8 hO8 hk8
      rw [← HN.out] at hO8
      have HO8 := Lib.hid hO8
      clear hO8 hk8
      go_wp2
      exact ⟨⟨k + 1, by omega, by go_num, HO8⟩, by simp [intOf]; omega⟩
    · obtain rfl : k = outs.length := by omega
      rw [List.take_length] at hO
      go_wp2
      go_ret
      exact ⟨_, rfl, hO.out.rebase hB⟩
end Go.Proofs.YtannhpadoooedaaGreatDoor
