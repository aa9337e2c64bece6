/- Texts of this seat, laid together: RtB, RtC, RtD, RpA, RpB, VwR. Each opens with its own remark, which says what it proves, and under which conditions. -/
import Derived.Test.YtannhpadoooedaaGreatDoorP11
import Derived.Test.YtannhpadoooedaaGreatDoorP08
import Derived.Deep.LoopGhost
import Derived.Test.YtannhpadoooedaaGreatDoorP04
set_option linter.unusedVariables false
set_option linter.unusedSimpArgs false
/- The reference's rows: Over; what an instruction makes of rows (do). -/
namespace Go.Proofs.YtannhpadoooedaaGreatDoor
open Num
open Go.ChangeShapes Go.WideShapes Go.ChangeAt Go.RowKit
set_option linter.unusedVariables false
set_option linter.unusedSimpArgs false
attribute [local go_sem ↓] Go.wp_at_zero Go.wp_at_succ
/-- what the reference's Over answers -/
def ROverQ (l : List Int) (c : Int) (w : World) (e : Ending) (w' : World) : Prop :=
  (((∃ j, j < l.length ∧ l.getD j 0 % c ≠ 0) ∧ e = .returned (.tuple #[.slice none 0 0, .bool false])) ∨
   ((∀ j, j < l.length → l.getD j 0 % c = 0) ∧ ∃ u, e = .returned (.tuple #[u, .bool true]) ∧ RowQ w.heap.size w' u (l.map fun x => x / c))) ∧ Below w.heap.size w w'
set_option maxRecDepth 100000 in
set_option maxHeartbeats 8000000 in
theorem rowOverQ_c (v vc : Value) (l : List Int) (c : Int) (k : Nat) (w : World) (hv : RRow 0 w v l) (hc : IsRef w vc c) (hl : l.length ≤ 1099511627775) (hb : ∀ j, Bd k (l.getD j 0)) (bc : Bd k c) (hk : k ≤ 17179869184) (h0 : c ≠ 0) :
    Calls Tryz.prog 111 #[v, vc] w (ROverQ l c w) := by
  have HV := Lib.hid hv
  have HC := Lib.hid hc
  have HBD := Lib.hid (And.intro hb (And.intro bc h0))
  clear hb bc h0
  obtain ⟨va, vcap, rfl, -⟩ := hv
  obtain ⟨n1, a1, cc1, l1, rfl, -⟩ := hc
  unfold iv at *
  have hB := Below.refl w.heap.size w
  go_enter Tryz.func111, Tryz.ntmps111
  go_wp2
  refine wp_name fun w0 hW0 => ?_
  have c0 : w0.cell? ⟨w.heap.size, 0, none⟩ = some (.bool n1) := by rw [hW0]; exact (by first | assumption | exact cell_new (by with_reducible first | rfl | (simp; done) | (simp; omega)) rfl | (repeat (first | assumption | exact cell_new (by with_reducible first | rfl | (simp; done) | (simp; omega)) rfl | refine cell_alloc ?_ _ | refine cell_drew ?_ | refine cell_drewN ?_ _ | refine cell_far ?_ (by simp) _ | (refine cell_far ?_ (by simp <;> omega) _))) | simp [go_sem, *])
  have zc0 := cell_lt c0
  have c1 : w0.cell? ⟨w.heap.size, 1, none⟩ = some (.slice a1 l1.length cc1) := by rw [hW0]; exact (by first | assumption | exact cell_new (by with_reducible first | rfl | (simp; done) | (simp; omega)) rfl | (repeat (first | assumption | exact cell_new (by with_reducible first | rfl | (simp; done) | (simp; omega)) rfl | refine cell_alloc ?_ _ | refine cell_drew ?_ | refine cell_drewN ?_ _ | refine cell_far ?_ (by simp) _ | (refine cell_far ?_ (by simp <;> omega) _))) | simp [go_sem, *])
  have hB : Below w.heap.size w w0 := by rw [hW0]; repeat (first | exact Below.refl _ _ | exact hB | refine Below.drew ?_ | refine below_drewN ?_ _ | refine bset ?_ (by simp <;> omega) _ | refine bal ?_ _)
  have hz : w.heap.size ≤ w0.heap.size := hB.size
  clear hW0
  have zc0' : w.heap.size < w0.heap.size := zc0
  have HP := Lib.hid (show ∀ W, Below w0.heap.size w0 W → W.cell? ⟨w.heap.size, 0, none⟩ = some (.bool n1) ∧ W.cell? ⟨w.heap.size, 1, none⟩ = some (.slice a1 l1.length cc1) from fun W h => ⟨bkeep h c0, bkeep h c1⟩)
  clear c0 c1
  go_loopw [6, 7] (fun v x wr => ∃ j : Nat, j ≤ l.length ∧ x = .int .i64 j ∧ Hid (OwnF IsRef 44 w0 wr v j (fun i => l.getD i 0 / c)) ∧ Hid (∀ i, i < j → l.getD i 0 % c = 0)) (fun _ x _ => l.length - (intOf x).toNat)
  case atStart => exact ⟨0, Nat.zero_le _, rfl, Lib.hid (OwnF.nil _ _ _ (Below.refl _ _)), Lib.hid (fun i hi => by omega)⟩
  case round =>
    obtain ⟨j, hj, rfl, hF, hA⟩ := hrel
    have hbr := hF.out.bel
    have hBr := bthen hB hbr
    obtain ⟨fa, fc, hfv⟩ : ∃ a c, _ = Value.slice a j c := by obtain ⟨a, c, h, _⟩ := hF.out.view; exact ⟨a, c, h⟩
    subst hfv
    by_cases hlt : j < l.length
    · have hltI : (j : Int) < (l.length : Int) := by omega
      obtain ⟨a', c', he, -, vr⟩ := HV.out.view
      obtain ⟨rfl, -, rfl⟩ := Value.slice.inj he
      obtain ⟨b, off, n2, a2, l2, cc2, rfl, d0, d1, hi⟩ := vr j hlt
      have hb2 := HBD.out.1 j
      have HSN := Lib.hid (show ∀ q, q < j + 1 → (fun i => if i = j then l.getD j 0 / c else l.getD i 0 / c) q = l.getD q 0 / c from fun q hq => by dsimp only; split; (subst_vars; rfl); rfl)
      have HAN' := Lib.hid (show l.getD j 0 % c = 0 → ∀ i, i < j + 1 → l.getD i 0 % c = 0 from fun h i hi => by
        by_cases e : i = j
        · subst e; exact h
        · exact hA.out i (by omega))
      have HNO := Lib.hid (show l.getD j 0 % c ≠ 0 → ∃ j, j < l.length ∧ l.getD j 0 % c ≠ 0 from fun h => ⟨j, hlt, h⟩)
      obtain ⟨x, hx⟩ : ∃ x, l.getD j 0 = x := ⟨_, rfl⟩
      rw [hx] at hi hb2 HSN HAN' HNO
      have dy := fun (h0 : x % c = 0) W (h : Below wr.heap.size wr W) => rover_yes (.agg #[.bool n2, .slice a2 l2 cc2]) (.agg #[.bool n1, .slice a1 l1.length cc1]) x c k W (hi.keep (bthen hBr h)) (HC.out.keep (bthen hBr h)) hb2 HBD.out.2.1 hk HBD.out.2.2 h0
      have dn := fun (h0 : x % c ≠ 0) W (h : Below wr.heap.size wr W) => rover_no (.agg #[.bool n2, .slice a2 l2 cc2]) (.agg #[.bool n1, .slice a1 l1.length cc1]) x c k W (hi.keep (bthen hBr h)) (HC.out.keep (bthen hBr h)) hb2 HBD.out.2.1 hk HBD.out.2.2 h0
      obtain ⟨q, hq⟩ : ∃ q, x / c = q := ⟨_, rfl⟩
      rw [hq] at dy HSN
      have HS := Lib.hid (show ∀ W, Below wr.heap.size wr W → W.cell? ⟨w.heap.size, 0, none⟩ = some (.bool n1) ∧ W.cell? ⟨w.heap.size, 1, none⟩ = some (.slice a1 l1.length cc1) ∧ W.cell? ⟨b, off + j * 2, none⟩ = some (.bool n2) ∧ W.cell? ⟨b, off + j * 2 + 1, none⟩ = some (.slice a2 l2 cc2) from fun W h => ⟨(HP.out W (bthen hbr h)).1, (HP.out W (bthen hbr h)).2, bkeep (bthen hBr h) d0, bkeep (bthen hBr h) d1⟩)
      have hBw := Below.refl wr.heap.size wr
      obtain ⟨y0, y1, y2, y3⟩ := HS.out wr hBw
      have zy0 := cell_lt y0
      have zy2 := cell_lt y2
      clear hx he vr hi hb2 hq d0 d1
      by_cases hr0 : x % c = 0
      · have HAN := Lib.hid (HAN'.out hr0)
        have dc := dy hr0
        clear dy dn HNO HAN' hr0
        go_wp2
        go_region_held3 (fun w' => w'.cell? ⟨w.heap.size, 0, none⟩ = some (.bool n1) ∧ w'.cell? ⟨w.heap.size, 1, none⟩ = some (.slice a1 l1.length cc1) ∧ w'.cell? ⟨b, off + j * 2, none⟩ = some (.bool n2) ∧ w'.cell? ⟨b, off + j * 2 + 1, none⟩ = some (.slice a2 l2 cc2))
          (first | (refine HS.out _ ?_; (repeat (first | exact Below.refl _ _ | exact hBw | refine Below.drew ?_ | refine below_drewN ?_ _ | refine bset ?_ (by simp <;> omega) _ | refine bal ?_ _)); done) | (refine HS.out _ ?_; (repeat (first | exact Below.refl _ _ | exact hB5 | refine Below.drew ?_ | refine below_drewN ?_ _ | refine bset ?_ (by simp <;> omega) _ | refine bal ?_ _)); done) | fail)
          (first
            | (go_at_call 161; (with_reducible show Calls _ _ _ (World.drew (World.alloc _ _)) _); refine (dc _ ?_).mono ?_; (repeat (first | exact Below.refl _ _ | exact hBw | refine Below.drew ?_ | refine below_drewN ?_ _ | refine bset ?_ (by simp <;> omega) _ | refine bal ?_ _)); rintro e w5 ⟨⟨v, rfl, hv⟩, hb5⟩; have hB5 : Below wr.heap.size wr w5 := bthen (by repeat (first | exact Below.refl _ _ | exact hBw | refine Below.drew ?_ | refine below_drewN ?_ _ | refine bset ?_ (by simp <;> omega) _ | refine bal ?_ _)) hb5; have HVV := Lib.hid hv; obtain ⟨n5, a5, c5, l5, rfl, -⟩ := hv; obtain ⟨r0, r1, r0f, r1f⟩ := box2 hb5; unfold iv at *)
            | (go_at_call 161; refine (dc _ ?_).mono ?_; (repeat (first | exact Below.refl _ _ | exact hBw | refine Below.drew ?_ | refine below_drewN ?_ _ | refine bset ?_ (by simp <;> omega) _ | refine bal ?_ _)); rintro e w5 ⟨⟨v, rfl, hv⟩, hb5⟩; have hB5 : Below wr.heap.size wr w5 := bthen (by repeat (first | exact Below.refl _ _ | exact hBw | refine Below.drew ?_ | refine below_drewN ?_ _ | refine bset ?_ (by simp <;> omega) _ | refine bal ?_ _)) hb5; have HVV := Lib.hid hv; obtain ⟨n5, a5, c5, l5, rfl, -⟩ := hv; unfold iv at *)
            | fail)
        · go_upto_region 6 with (fail)
          refine wp_name fun w6 hW6 => ?_
          have hb6 : Below wr.heap.size wr w6 := by rw [hW6]; exact bal hB5 _
          have p0 : w6.cell? ⟨w5.heap.size, 0, none⟩ = some (.bool n5) := by rw [hW6]; exact cell_new rfl rfl
          have p1 : w6.cell? ⟨w5.heap.size, 1, none⟩ = some (.slice a5 l5.length c5) := by rw [hW6]; exact cell_new rfl rfl
          have HV6 : Hid (IsRef w6 (.agg #[.bool n5, .slice a5 l5.length c5]) q) := Lib.hid (by rw [hW6]; exact HVV.out.keep (bal (Below.refl _ _) _))
          clear hW6 dc y0 y1 y2 y3
          have HF6 := Lib.hid (hF.out.below lims_ref hb6)
          have hB6 : Below w.heap.size w w6 := bthen hBr hb6
          have zp6 := cell_lt p0
          go_wp2_with (at_builtin; refine app_num elRw (by decide) lims_ref (by rfl) (by rfl) HF6.out HV6.out (by rfl) (by rfl) (by omega) ?_)
          intro v' w8 hF8 _ _
          have HF8 := Lib.hid (hF8.congr' (fun i hi => HSN.out i hi))
          clear hF8
          go_wp2
          exact ⟨⟨j + 1, by omega, by go_num, HF8, HAN⟩, by simp [intOf]; omega⟩
        · go_upto_region 6 with (fail)
          refine wp_name fun w6 hW6 => ?_
          have hb6 : Below wr.heap.size wr w6 := by rw [hW6]; exact bset (bset hB5 (Nat.le_refl _) _) (Nat.le_refl _) _
          have p0 : w6.cell? ⟨wr.heap.size, 0, none⟩ = some (.bool n5) := by rw [hW6]; exact cell_far (cell_here r0 _) (by simp) _
          have p1 : w6.cell? ⟨wr.heap.size, 1, none⟩ = some (.slice a5 l5.length c5) := by rw [hW6]; exact cell_here (cell_far r1 (by simp) _) _
          have HV6 : Hid (IsRef w6 (.agg #[.bool n5, .slice a5 l5.length c5]) q) := Lib.hid (by rw [hW6]; exact HVV.out.put2 r0 r1 _ _)
          clear hW6 dc y0 y1 y2 y3
          have HF6 := Lib.hid (hF.out.below lims_ref hb6)
          have hB6 : Below w.heap.size w w6 := bthen hBr hb6
          have zp6 := cell_lt p0
          go_wp2_with (at_builtin; refine app_num elRw (by decide) lims_ref (by rfl) (by rfl) HF6.out HV6.out (by rfl) (by rfl) (by omega) ?_)
          intro v' w8 hF8 _ _
          have HF8 := Lib.hid (hF8.congr' (fun i hi => HSN.out i hi))
          clear hF8
          go_wp2
          exact ⟨⟨j + 1, by omega, by go_num, HF8, HAN⟩, by simp [intOf]; omega⟩
      · have HNO' := Lib.hid (HNO.out hr0)
        have dc := dn hr0
        clear dy dn HNO HAN' hr0
        go_wp2
        go_region_held3 (fun w' => w'.cell? ⟨w.heap.size, 0, none⟩ = some (.bool n1) ∧ w'.cell? ⟨w.heap.size, 1, none⟩ = some (.slice a1 l1.length cc1) ∧ w'.cell? ⟨b, off + j * 2, none⟩ = some (.bool n2) ∧ w'.cell? ⟨b, off + j * 2 + 1, none⟩ = some (.slice a2 l2 cc2))
          (first | (refine HS.out _ ?_; (repeat (first | exact Below.refl _ _ | exact hBw | refine Below.drew ?_ | refine below_drewN ?_ _ | refine bset ?_ (by simp <;> omega) _ | refine bal ?_ _)); done) | (refine HS.out _ ?_; (repeat (first | exact Below.refl _ _ | exact hB5 | refine Below.drew ?_ | refine below_drewN ?_ _ | refine bset ?_ (by simp <;> omega) _ | refine bal ?_ _)); done) | fail)
          (first
            | (go_at_call 161; (with_reducible show Calls _ _ _ (World.drew (World.alloc _ _)) _); refine (dc _ ?_).mono ?_; (repeat (first | exact Below.refl _ _ | exact hBw | refine Below.drew ?_ | refine below_drewN ?_ _ | refine bset ?_ (by simp <;> omega) _ | refine bal ?_ _)); rintro e w5 ⟨rfl, hb5⟩; have hB5 : Below wr.heap.size wr w5 := bthen (by repeat (first | exact Below.refl _ _ | exact hBw | refine Below.drew ?_ | refine below_drewN ?_ _ | refine bset ?_ (by simp <;> omega) _ | refine bal ?_ _)) hb5; obtain ⟨r0, r1, r0f, r1f⟩ := box2 hb5)
            | (go_at_call 161; refine (dc _ ?_).mono ?_; (repeat (first | exact Below.refl _ _ | exact hBw | refine Below.drew ?_ | refine below_drewN ?_ _ | refine bset ?_ (by simp <;> omega) _ | refine bal ?_ _)); rintro e w5 ⟨rfl, hb5⟩; have hB5 : Below wr.heap.size wr w5 := bthen (by repeat (first | exact Below.refl _ _ | exact hBw | refine Below.drew ?_ | refine below_drewN ?_ _ | refine bset ?_ (by simp <;> omega) _ | refine bal ?_ _)) hb5)
            | fail)
        all_goals
          go_wp2
          go_ret2
          refine ⟨.inl ⟨HNO'.out, rfl⟩, bthen hBr ?_⟩
          repeat (first | exact hB5 | refine bset ?_ (Nat.le_refl _) _ | refine bal ?_ _)
    · obtain rfl : j = l.length := by omega
      have hF2 := Lib.hid (show RowQ w.heap.size wr (.slice fa l.length fc) (l.map fun x => x / c) from (OwnF.rowO (w0 := w0) (l := l.map fun x => x / c) (by rw [List.length_map]; exact hF.out.congr' (fun k hk => (map_getD (fun x => x / c) hk).symm))).rebase hB.size)
      go_wp2
      go_ret2
      exact ⟨.inr ⟨hA.out, _, rfl, hF2.out⟩, hBr⟩
end Go.Proofs.YtannhpadoooedaaGreatDoor

/- The reference's rows: constant; what an instruction makes of rows (do). -/
namespace Go.Proofs.YtannhpadoooedaaGreatDoor
open Num
open Go.ChangeShapes Go.WideShapes Go.ChangeAt Go.RowKit
set_option linter.unusedVariables false
set_option linter.unusedSimpArgs false
attribute [local go_sem ↓] Go.wp_at_zero Go.wp_at_succ
set_option maxRecDepth 100000 in
set_option maxHeartbeats 2000000 in
theorem rconst5_c (t a b : Int) (c : Int) (h1 : -9223372036854775808 ≤ c) (h2 : c ≤ 9223372036854775807) (w : World) :
    Calls Tryz.prog 110 #[.agg #[.int .i64 5, .int .i64 t, .int .i64 a, .int .i64 b, .int .i64 c]] w fun e w' => (∃ v, e = .returned v ∧ IsRef w' v c) ∧ Below w.heap.size w w' := by
  have oc := fun W => rof_c c W h1 h2
  have hB := Below.refl w.heap.size w
  go_enter Tryz.func110, Tryz.ntmps110
  go_wp2_with fail
  refine (oc _).mono ?_
  rintro e w1 ⟨⟨v, rfl, hi⟩, hb1⟩
  have r0 : w1.cell? ⟨w.heap.size + 1, 0, none⟩ = some (.bool false) := bkeep hb1 (by first | assumption | exact cell_new (by with_reducible first | rfl | (simp; done) | (simp; omega)) rfl | (repeat (first | assumption | exact cell_new (by with_reducible first | rfl | (simp; done) | (simp; omega)) rfl | refine cell_alloc ?_ _ | refine cell_drew ?_ | refine cell_drewN ?_ _ | refine cell_far ?_ (by simp) _ | (refine cell_far ?_ (by simp <;> omega) _))) | simp [go_sem, *])
  have zr0 := cell_lt r0
  have r0f : w1.frozen? ⟨w.heap.size + 1, 0, none⟩ = false := bkeepf (v := .bool false) hb1 (by first | assumption | exact cell_new (by with_reducible first | rfl | (simp; done) | (simp; omega)) rfl | (repeat (first | assumption | exact cell_new (by with_reducible first | rfl | (simp; done) | (simp; omega)) rfl | refine cell_alloc ?_ _ | refine cell_drew ?_ | refine cell_drewN ?_ _ | refine cell_far ?_ (by simp) _ | (refine cell_far ?_ (by simp <;> omega) _))) | simp [go_sem, *]) (by first | assumption | (simp <;> assumption) | simp [go_sem, *])
  have r1 : w1.cell? ⟨w.heap.size + 1, 1, none⟩ = some (.slice none 0 0) := bkeep hb1 (by first | assumption | exact cell_new (by with_reducible first | rfl | (simp; done) | (simp; omega)) rfl | (repeat (first | assumption | exact cell_new (by with_reducible first | rfl | (simp; done) | (simp; omega)) rfl | refine cell_alloc ?_ _ | refine cell_drew ?_ | refine cell_drewN ?_ _ | refine cell_far ?_ (by simp) _ | (refine cell_far ?_ (by simp <;> omega) _))) | simp [go_sem, *])
  have r1f : w1.frozen? ⟨w.heap.size + 1, 1, none⟩ = false := bkeepf (v := .slice none 0 0) hb1 (by first | assumption | exact cell_new (by with_reducible first | rfl | (simp; done) | (simp; omega)) rfl | (repeat (first | assumption | exact cell_new (by with_reducible first | rfl | (simp; done) | (simp; omega)) rfl | refine cell_alloc ?_ _ | refine cell_drew ?_ | refine cell_drewN ?_ _ | refine cell_far ?_ (by simp) _ | (refine cell_far ?_ (by simp <;> omega) _))) | simp [go_sem, *]) (by first | assumption | (simp <;> assumption) | simp [go_sem, *])
  have hB : Below w.heap.size w w1 := bthen (by repeat (first | exact Below.refl _ _ | exact hB | refine Below.drew ?_ | refine below_drewN ?_ _ | refine bset ?_ (by simp <;> omega) _ | refine bal ?_ _)) hb1
  have hz : w.heap.size ≤ w1.heap.size := hB.size
  have HI2 := Lib.hid (hi.put2 r0 r1)
  obtain ⟨n4, a4, c4, l4, rfl, _, _, _, _⟩ := hi
  unfold iv at *
  clear oc
  go_wp2
  refine bodyPost_ret (v := .agg #[.bool n4, .slice a4 l4.length c4]) (by simp [results, Tryz.results110, go_sem, *]) rfl ⟨⟨_, rfl, HI2.out _ _⟩, ?_⟩
  repeat (first | exact Below.refl _ _ | exact hB | refine Below.drew ?_ | refine below_drewN ?_ _ | refine bset ?_ (by simp <;> omega) _ | refine bal ?_ _)
set_option maxRecDepth 100000 in
set_option maxHeartbeats 2000000 in
theorem rconst6_c (t a b : Int) (c : Int) (h1 : -9223372036854775808 ≤ c) (h2 : c ≤ 9223372036854775807) (w : World) :
    Calls Tryz.prog 110 #[.agg #[.int .i64 6, .int .i64 t, .int .i64 a, .int .i64 b, .int .i64 c]] w fun e w' => (∃ v, e = .returned v ∧ IsRef w' v c) ∧ Below w.heap.size w w' := by
  have oc := fun W => rof_c c W h1 h2
  have hB := Below.refl w.heap.size w
  go_enter Tryz.func110, Tryz.ntmps110
  go_wp2_with fail
  refine (oc _).mono ?_
  rintro e w1 ⟨⟨v, rfl, hi⟩, hb1⟩
  have r0 : w1.cell? ⟨w.heap.size + 1, 0, none⟩ = some (.bool false) := bkeep hb1 (by first | assumption | exact cell_new (by with_reducible first | rfl | (simp; done) | (simp; omega)) rfl | (repeat (first | assumption | exact cell_new (by with_reducible first | rfl | (simp; done) | (simp; omega)) rfl | refine cell_alloc ?_ _ | refine cell_drew ?_ | refine cell_drewN ?_ _ | refine cell_far ?_ (by simp) _ | (refine cell_far ?_ (by simp <;> omega) _))) | simp [go_sem, *])
  have zr0 := cell_lt r0
  have r0f : w1.frozen? ⟨w.heap.size + 1, 0, none⟩ = false := bkeepf (v := .bool false) hb1 (by first | assumption | exact cell_new (by with_reducible first | rfl | (simp; done) | (simp; omega)) rfl | (repeat (first | assumption | exact cell_new (by with_reducible first | rfl | (simp; done) | (simp; omega)) rfl | refine cell_alloc ?_ _ | refine cell_drew ?_ | refine cell_drewN ?_ _ | refine cell_far ?_ (by simp) _ | (refine cell_far ?_ (by simp <;> omega) _))) | simp [go_sem, *]) (by first | assumption | (simp <;> assumption) | simp [go_sem, *])
  have r1 : w1.cell? ⟨w.heap.size + 1, 1, none⟩ = some (.slice none 0 0) := bkeep hb1 (by first | assumption | exact cell_new (by with_reducible first | rfl | (simp; done) | (simp; omega)) rfl | (repeat (first | assumption | exact cell_new (by with_reducible first | rfl | (simp; done) | (simp; omega)) rfl | refine cell_alloc ?_ _ | refine cell_drew ?_ | refine cell_drewN ?_ _ | refine cell_far ?_ (by simp) _ | (refine cell_far ?_ (by simp <;> omega) _))) | simp [go_sem, *])
  have r1f : w1.frozen? ⟨w.heap.size + 1, 1, none⟩ = false := bkeepf (v := .slice none 0 0) hb1 (by first | assumption | exact cell_new (by with_reducible first | rfl | (simp; done) | (simp; omega)) rfl | (repeat (first | assumption | exact cell_new (by with_reducible first | rfl | (simp; done) | (simp; omega)) rfl | refine cell_alloc ?_ _ | refine cell_drew ?_ | refine cell_drewN ?_ _ | refine cell_far ?_ (by simp) _ | (refine cell_far ?_ (by simp <;> omega) _))) | simp [go_sem, *]) (by first | assumption | (simp <;> assumption) | simp [go_sem, *])
  have hB : Below w.heap.size w w1 := bthen (by repeat (first | exact Below.refl _ _ | exact hB | refine Below.drew ?_ | refine below_drewN ?_ _ | refine bset ?_ (by simp <;> omega) _ | refine bal ?_ _)) hb1
  have hz : w.heap.size ≤ w1.heap.size := hB.size
  have HI2 := Lib.hid (hi.put2 r0 r1)
  obtain ⟨n4, a4, c4, l4, rfl, _, _, _, _⟩ := hi
  unfold iv at *
  clear oc
  go_wp2
  refine bodyPost_ret (v := .agg #[.bool n4, .slice a4 l4.length c4]) (by simp [results, Tryz.results110, go_sem, *]) rfl ⟨⟨_, rfl, HI2.out _ _⟩, ?_⟩
  repeat (first | exact Below.refl _ _ | exact hB | refine Below.drew ?_ | refine below_drewN ?_ _ | refine bset ?_ (by simp <;> omega) _ | refine bal ?_ _)
set_option maxRecDepth 100000 in
set_option maxHeartbeats 2000000 in
theorem rconst7_c (t a b : Int) (m : Nat) (h1 : m ≤ 64) (w : World) :
    Calls Tryz.prog 110 #[.agg #[.int .i64 7, .int .i64 t, .int .i64 a, .int .i64 b, .int .i64 (m : Int)]] w fun e w' => (∃ v, e = .returned v ∧ IsRef w' v (2 ^ m)) ∧ Below w.heap.size w w' := by
  have oc := fun W => rpower_c m W (by omega)
  have hB := Below.refl w.heap.size w
  go_enter Tryz.func110, Tryz.ntmps110
  go_wp2_with fail
  refine (oc _).mono ?_
  rintro e w1 ⟨⟨v, rfl, hi⟩, hb1⟩
  have r0 : w1.cell? ⟨w.heap.size + 1, 0, none⟩ = some (.bool false) := bkeep hb1 (by first | assumption | exact cell_new (by with_reducible first | rfl | (simp; done) | (simp; omega)) rfl | (repeat (first | assumption | exact cell_new (by with_reducible first | rfl | (simp; done) | (simp; omega)) rfl | refine cell_alloc ?_ _ | refine cell_drew ?_ | refine cell_drewN ?_ _ | refine cell_far ?_ (by simp) _ | (refine cell_far ?_ (by simp <;> omega) _))) | simp [go_sem, *])
  have zr0 := cell_lt r0
  have r0f : w1.frozen? ⟨w.heap.size + 1, 0, none⟩ = false := bkeepf (v := .bool false) hb1 (by first | assumption | exact cell_new (by with_reducible first | rfl | (simp; done) | (simp; omega)) rfl | (repeat (first | assumption | exact cell_new (by with_reducible first | rfl | (simp; done) | (simp; omega)) rfl | refine cell_alloc ?_ _ | refine cell_drew ?_ | refine cell_drewN ?_ _ | refine cell_far ?_ (by simp) _ | (refine cell_far ?_ (by simp <;> omega) _))) | simp [go_sem, *]) (by first | assumption | (simp <;> assumption) | simp [go_sem, *])
  have r1 : w1.cell? ⟨w.heap.size + 1, 1, none⟩ = some (.slice none 0 0) := bkeep hb1 (by first | assumption | exact cell_new (by with_reducible first | rfl | (simp; done) | (simp; omega)) rfl | (repeat (first | assumption | exact cell_new (by with_reducible first | rfl | (simp; done) | (simp; omega)) rfl | refine cell_alloc ?_ _ | refine cell_drew ?_ | refine cell_drewN ?_ _ | refine cell_far ?_ (by simp) _ | (refine cell_far ?_ (by simp <;> omega) _))) | simp [go_sem, *])
  have r1f : w1.frozen? ⟨w.heap.size + 1, 1, none⟩ = false := bkeepf (v := .slice none 0 0) hb1 (by first | assumption | exact cell_new (by with_reducible first | rfl | (simp; done) | (simp; omega)) rfl | (repeat (first | assumption | exact cell_new (by with_reducible first | rfl | (simp; done) | (simp; omega)) rfl | refine cell_alloc ?_ _ | refine cell_drew ?_ | refine cell_drewN ?_ _ | refine cell_far ?_ (by simp) _ | (refine cell_far ?_ (by simp <;> omega) _))) | simp [go_sem, *]) (by first | assumption | (simp <;> assumption) | simp [go_sem, *])
  have hB : Below w.heap.size w w1 := bthen (by repeat (first | exact Below.refl _ _ | exact hB | refine Below.drew ?_ | refine below_drewN ?_ _ | refine bset ?_ (by simp <;> omega) _ | refine bal ?_ _)) hb1
  have hz : w.heap.size ≤ w1.heap.size := hB.size
  have HI2 := Lib.hid (hi.put2 r0 r1)
  obtain ⟨n4, a4, c4, l4, rfl, _, _, _, _⟩ := hi
  unfold iv at *
  clear oc
  go_wp2
  refine bodyPost_ret (v := .agg #[.bool n4, .slice a4 l4.length c4]) (by simp [results, Tryz.results110, go_sem, *]) rfl ⟨⟨_, rfl, HI2.out _ _⟩, ?_⟩
  repeat (first | exact Below.refl _ _ | exact hB | refine Below.drew ?_ | refine below_drewN ?_ _ | refine bset ?_ (by simp <;> omega) _ | refine bal ?_ _)
set_option maxRecDepth 100000 in
set_option maxHeartbeats 2000000 in
theorem rconst8_c (t a b : Int) (m : Nat) (h1 : m ≤ 64) (w : World) :
    Calls Tryz.prog 110 #[.agg #[.int .i64 8, .int .i64 t, .int .i64 a, .int .i64 b, .int .i64 (m : Int)]] w fun e w' => (∃ v, e = .returned v ∧ IsRef w' v (2 ^ m)) ∧ Below w.heap.size w w' := by
  have oc := fun W => rpower_c m W (by omega)
  have hB := Below.refl w.heap.size w
  go_enter Tryz.func110, Tryz.ntmps110
  go_wp2_with fail
  refine (oc _).mono ?_
  rintro e w1 ⟨⟨v, rfl, hi⟩, hb1⟩
  have r0 : w1.cell? ⟨w.heap.size + 1, 0, none⟩ = some (.bool false) := bkeep hb1 (by first | assumption | exact cell_new (by with_reducible first | rfl | (simp; done) | (simp; omega)) rfl | (repeat (first | assumption | exact cell_new (by with_reducible first | rfl | (simp; done) | (simp; omega)) rfl | refine cell_alloc ?_ _ | refine cell_drew ?_ | refine cell_drewN ?_ _ | refine cell_far ?_ (by simp) _ | (refine cell_far ?_ (by simp <;> omega) _))) | simp [go_sem, *])
  have zr0 := cell_lt r0
  have r0f : w1.frozen? ⟨w.heap.size + 1, 0, none⟩ = false := bkeepf (v := .bool false) hb1 (by first | assumption | exact cell_new (by with_reducible first | rfl | (simp; done) | (simp; omega)) rfl | (repeat (first | assumption | exact cell_new (by with_reducible first | rfl | (simp; done) | (simp; omega)) rfl | refine cell_alloc ?_ _ | refine cell_drew ?_ | refine cell_drewN ?_ _ | refine cell_far ?_ (by simp) _ | (refine cell_far ?_ (by simp <;> omega) _))) | simp [go_sem, *]) (by first | assumption | (simp <;> assumption) | simp [go_sem, *])
  have r1 : w1.cell? ⟨w.heap.size + 1, 1, none⟩ = some (.slice none 0 0) := bkeep hb1 (by first | assumption | exact cell_new (by with_reducible first | rfl | (simp; done) | (simp; omega)) rfl | (repeat (first | assumption | exact cell_new (by with_reducible first | rfl | (simp; done) | (simp; omega)) rfl | refine cell_alloc ?_ _ | refine cell_drew ?_ | refine cell_drewN ?_ _ | refine cell_far ?_ (by simp) _ | (refine cell_far ?_ (by simp <;> omega) _))) | simp [go_sem, *])
  have r1f : w1.frozen? ⟨w.heap.size + 1, 1, none⟩ = false := bkeepf (v := .slice none 0 0) hb1 (by first | assumption | exact cell_new (by with_reducible first | rfl | (simp; done) | (simp; omega)) rfl | (repeat (first | assumption | exact cell_new (by with_reducible first | rfl | (simp; done) | (simp; omega)) rfl | refine cell_alloc ?_ _ | refine cell_drew ?_ | refine cell_drewN ?_ _ | refine cell_far ?_ (by simp) _ | (refine cell_far ?_ (by simp <;> omega) _))) | simp [go_sem, *]) (by first | assumption | (simp <;> assumption) | simp [go_sem, *])
  have hB : Below w.heap.size w w1 := bthen (by repeat (first | exact Below.refl _ _ | exact hB | refine Below.drew ?_ | refine below_drewN ?_ _ | refine bset ?_ (by simp <;> omega) _ | refine bal ?_ _)) hb1
  have hz : w.heap.size ≤ w1.heap.size := hB.size
  have HI2 := Lib.hid (hi.put2 r0 r1)
  obtain ⟨n4, a4, c4, l4, rfl, _, _, _, _⟩ := hi
  unfold iv at *
  clear oc
  go_wp2
  refine bodyPost_ret (v := .agg #[.bool n4, .slice a4 l4.length c4]) (by simp [results, Tryz.results110, go_sem, *]) rfl ⟨⟨_, rfl, HI2.out _ _⟩, ?_⟩
  repeat (first | exact Below.refl _ _ | exact hB | refine Below.drew ?_ | refine below_drewN ?_ _ | refine bset ?_ (by simp <;> omega) _ | refine bal ?_ _)
/-- the reference's registers in a block that may be written -/
structure RegsQ (w : World) (rb : Nat) (g : Grid) : Prop where
  free : Free w rb
  ty : typOf w rb = some 31
  cell : ∀ k, k < g.length → ∃ u, w.cell? ⟨rb, k, none⟩ = some u ∧ RRow 0 w u (g.getD k [])
theorem RegsQ.keep {rb : Nat} {w w' : World} {g : Grid} (h : RegsQ w rb g) (k : Below w.heap.size w w') : RegsQ w' rb g :=
  ⟨h.free.keep k, typ_keep h.ty k, fun j hj => by obtain ⟨u, hu, hr⟩ := h.cell j hj; exact ⟨u, bkeep k hu, hr.keep lims_ref k⟩⟩
theorem RegsQ.step {rb nt : Nat} {w : World} {g : Grid} {v : Value} {r : List Int} (h : RegsQ w rb g) (hv : RRow 0 w v r) (ht : nt < g.length) : RegsQ (w.setCell ⟨rb, nt, none⟩ v) rb (g.set nt r) := by
  have hk : Kp (· ≠ 31) w (w.setCell ⟨rb, nt, none⟩ v) := (Kp.refl _ w).set (fun t ht => by rw [h.ty] at ht; cases ht; exact fun k => k rfl) _
  refine ⟨h.free.set _ _, by rw [typ_set]; exact h.ty, fun k hk' => ?_⟩
  rw [List.length_set] at hk'
  by_cases e : nt = k
  · subst e
    obtain ⟨u, hu, _⟩ := h.cell nt hk'
    refine ⟨v, cell_here hu _, ?_⟩
    have : (g.set nt r).getD nt [] = r := by simp [hk']
    rw [this]
    exact hv.kp lims_ref hk (by decide) (by decide)
  · obtain ⟨u, hu, hr⟩ := h.cell k hk'
    refine ⟨u, cell_far hu (fun e2 => e (by cases e2; rfl)) _, ?_⟩
    have : (g.set nt r).getD k [] = g.getD k [] := by simp [List.getElem?_set_ne e]
    rw [this]
    exact hr.kp lims_ref hk (by decide) (by decide)
/-- answers a row and true, or nothing and false -/
def AnsQ (z : Option (List Int)) (w : World) (e : Ending) (w' : World) : Prop :=
  (match z with
    | some r => ∃ v, e = .returned (.tuple #[v, .bool true]) ∧ RRow 0 w' v r
    | none => e = .returned (.tuple #[.slice none 0 0, .bool false])) ∧ Below w.heap.size w w'
theorem ansQ_some {z : Option (List Int)} {x : List Int} {v : Value} {w w' : World} (h : z = some x) (hv : RRow 0 w' v x) (hb : Below w.heap.size w w') : AnsQ z w (.returned (.tuple #[v, .bool true])) w' := by
  subst h; exact ⟨⟨v, rfl, hv⟩, hb⟩
theorem ansQ_none {z : Option (List Int)} {w w' : World} (h : z = none) (hb : Below w.heap.size w w') : AnsQ z w (.returned (.tuple #[.slice none 0 0, .bool false])) w' := by
  subst h; exact ⟨rfl, hb⟩
set_option maxRecDepth 100000 in
set_option maxHeartbeats 16000000 in
theorem rdo_c (i : Ins) (k rb rc m : Nat) (g : Grid) (w : World) (hr : RegsQ w rb g) (hi : InsOk i g.length) (hR : Rect m g) (hm : m ≤ 1099511627775) (hb : BdG k g) (hk : k ≤ 4294967296) (hn : g.length ≤ 128) :
    Calls Tryz.prog 63 #[i.v, .slice (some ⟨rb, 0, none⟩) g.length rc] w (AnsQ (stepR i (g.getD i.a.toNat []) (g.getD i.b.toNat [])) w) := by
  obtain ⟨o1, o2, t0, t1, a0, a1, b0, b1, hc⟩ := hi
  obtain ⟨op, it, ia, ib, ic⟩ := i
  dsimp only at o1 o2 t0 t1 a0 a1 b0 b1 hc ⊢
  obtain ⟨na, rfl⟩ : ∃ x : Nat, ia = x := ⟨ia.toNat, by omega⟩
  obtain ⟨nb, rfl⟩ : ∃ x : Nat, ib = x := ⟨ib.toNat, by omega⟩
  have a1' : na < g.length := by omega
  have b1' : nb < g.length := by omega
  rw [Int.toNat_natCast, Int.toNat_natCast]
  obtain ⟨ua, x0, hx⟩ := hr.cell na a1'
  obtain ⟨ub, y0, hy⟩ := hr.cell nb b1'
  have HL := Lib.hid (And.intro (hR na a1') (hR nb b1'))
  have HBD := Lib.hid (And.intro (fun j => hb na j) (fun j => hb nb j))
  obtain ⟨A, hA⟩ : ∃ A, g.getD na [] = A := ⟨_, rfl⟩
  obtain ⟨B, hB'⟩ : ∃ B, g.getD nb [] = B := ⟨_, rfl⟩
  rw [hA] at HL HBD hx ⊢
  rw [hB'] at HL HBD hy ⊢
  obtain ⟨n, hnE⟩ : ∃ n, g.length = n := ⟨_, rfl⟩
  rw [hnE] at a1' b1' hn ⊢
  clear hA hB' hb hr hR t0 t1 a0 a1 b0 b1 hnE
  have HX := Lib.hid hx
  have HY := Lib.hid hy
  have HC := Lib.hid hc
  have hLA : A.length ≤ 1099511627775 := by rw [HL.out.1]; exact hm
  have HLA := Lib.hid hLA
  have HEQ := Lib.hid (show A.length = B.length by rw [HL.out.1, HL.out.2])
  have hga : (na : Int) < (n : Int) := by omega
  have hgb : (nb : Int) < (n : Int) := by omega
  obtain ⟨xa, xc, rfl, -⟩ := hx
  obtain ⟨ya, yc, rfl, -⟩ := hy
  clear hc hLA
  have zrb := cell_lt x0
  have hB := Below.refl w.heap.size w
  unfold Ins.v
  dsimp only
  have ax := fun W (h : Below w.heap.size w W) => radd4_c _ _ A B k W (HX.out.keep lims_ref h) (HY.out.keep lims_ref h) HLA.out HEQ.out HBD.out.1 HBD.out.2 (by omega)
  have sx := fun W (h : Below w.heap.size w W) => rsub4_c _ _ A B k W (HX.out.keep lims_ref h) (HY.out.keep lims_ref h) HLA.out HEQ.out HBD.out.1 HBD.out.2 (by omega)
  have hop : op = 1 ∨ op = 2 ∨ op = 3 ∨ op = 4 ∨ op = 5 ∨ op = 6 ∨ op = 7 ∨ op = 8 := by omega
  clear o1 o2
  go_enter Tryz.func63, Tryz.ntmps63
  rcases hop with rfl | rfl | rfl | rfl | rfl | rfl | rfl | rfl
  · go_wp2
    go_ret2
    exact ansQ_some (stepR_self fun j hj => by simp [opI]) (HX.out.keep lims_ref (by repeat (first | exact Below.refl _ _ | exact hB | refine Below.drew ?_ | refine below_drewN ?_ _ | refine bset ?_ (by simp <;> omega) _ | refine bal ?_ _))) (by repeat (first | exact Below.refl _ _ | exact hB | refine Below.drew ?_ | refine below_drewN ?_ _ | refine bset ?_ (by simp <;> omega) _ | refine bal ?_ _))
  ·
    have oc := fun W => rof_c (-1) W (by omega) (by omega)
    go_wp2_with fail
    refine (oc _).mono ?_
    rintro e w5 ⟨⟨v5, rfl, h5⟩, hb5⟩
    have hB5 : Below w.heap.size w w5 := bthen (by repeat (first | exact Below.refl _ _ | exact hB | refine Below.drew ?_ | refine below_drewN ?_ _ | refine bset ?_ (by simp <;> omega) _ | refine bal ?_ _)) hb5
    have H5 := Lib.hid h5
    obtain ⟨n5, a5, c5, l5, rfl, -⟩ := h5
    unfold iv at *
    have hw5 := Below.refl w5.heap.size w5
    clear oc
    have mc := fun W (q : Below w5.heap.size w5 W) => rscale_c _ _ A _ k 65 W (HX.out.keep lims_ref (bthen hB5 q)) (H5.out.keep q) HLA.out HBD.out.1 (by unfold Bd; decide) (by omega)
    go_wp2_with fail
    refine (mc _ (by repeat (first | exact Below.refl _ _ | exact hw5 | refine Below.drew ?_ | refine below_drewN ?_ _ | refine bset ?_ (by simp <;> omega) _ | refine bal ?_ _))).mono ?_
    rintro e w9 ⟨⟨u, rfl, hu⟩, hb9⟩
    have hB9 : Below w.heap.size w w9 := bthen hB5 (bthen (by repeat (first | exact Below.refl _ _ | exact hw5 | refine Below.drew ?_ | refine below_drewN ?_ _ | refine bset ?_ (by simp <;> omega) _ | refine bal ?_ _)) hb9)
    clear mc
    have HU := Lib.hid (hu.row.rebase (Nat.zero_le _))
    obtain ⟨ua, un, uc, rfl⟩ : ∃ a n c, u = Value.slice a n c := by obtain ⟨a, c, h⟩ := hu.ex; exact ⟨a, _, c, h⟩
    clear hu
    go_wp2
    go_ret2
    exact ansQ_some (stepR_map (fun x => x * -1) fun j hj => by simp [opI]) HU.out (by repeat (first | exact Below.refl _ _ | exact hB9 | refine Below.drew ?_ | refine below_drewN ?_ _ | refine bset ?_ (by simp <;> omega) _ | refine bal ?_ _))
  ·
    go_wp2_with fail
    refine (ax _ (by repeat (first | exact Below.refl _ _ | exact hB | refine Below.drew ?_ | refine below_drewN ?_ _ | refine bset ?_ (by simp <;> omega) _ | refine bal ?_ _))).mono ?_
    rintro e w9 ⟨⟨u, rfl, hu⟩, hb9⟩
    have hB9 : Below w.heap.size w w9 := bthen (by repeat (first | exact Below.refl _ _ | exact hB | refine Below.drew ?_ | refine below_drewN ?_ _ | refine bset ?_ (by simp <;> omega) _ | refine bal ?_ _)) hb9
    have HU := Lib.hid (hu.row.rebase (Nat.zero_le _))
    obtain ⟨ua, un, uc, rfl⟩ : ∃ a n c, u = Value.slice a n c := by obtain ⟨a, c, h⟩ := hu.ex; exact ⟨a, _, c, h⟩
    clear hu
    go_wp2
    go_ret2
    exact ansQ_some (stepR_zip (fun x y => x + y) HEQ.out fun j hj => by simp [opI]) HU.out (by repeat (first | exact Below.refl _ _ | exact hB9 | refine Below.drew ?_ | refine below_drewN ?_ _ | refine bset ?_ (by simp <;> omega) _ | refine bal ?_ _))
  ·
    go_wp2_with fail
    refine (sx _ (by repeat (first | exact Below.refl _ _ | exact hB | refine Below.drew ?_ | refine below_drewN ?_ _ | refine bset ?_ (by simp <;> omega) _ | refine bal ?_ _))).mono ?_
    rintro e w9 ⟨⟨u, rfl, hu⟩, hb9⟩
    have hB9 : Below w.heap.size w w9 := bthen (by repeat (first | exact Below.refl _ _ | exact hB | refine Below.drew ?_ | refine below_drewN ?_ _ | refine bset ?_ (by simp <;> omega) _ | refine bal ?_ _)) hb9
    have HU := Lib.hid (hu.row.rebase (Nat.zero_le _))
    obtain ⟨ua, un, uc, rfl⟩ : ∃ a n c, u = Value.slice a n c := by obtain ⟨a, c, h⟩ := hu.ex; exact ⟨a, _, c, h⟩
    clear hu
    go_wp2
    go_ret2
    exact ansQ_some (stepR_zip (fun x y => x - y) HEQ.out fun j hj => by simp [opI]) HU.out (by repeat (first | exact Below.refl _ _ | exact hB9 | refine Below.drew ?_ | refine below_drewN ?_ _ | refine bset ?_ (by simp <;> omega) _ | refine bal ?_ _))
  · rw [constB_mul (.inl rfl)] at HC
    have hc := of_decide_eq_true HC.out
    have oc := fun W => rconst5_c it na nb ic (by omega) (by omega) W
    go_wp2_with fail
    refine (oc _).mono ?_
    rintro e w5 ⟨⟨v5, rfl, h5⟩, hb5⟩
    have hB5 : Below w.heap.size w w5 := bthen (by repeat (first | exact Below.refl _ _ | exact hB | refine Below.drew ?_ | refine below_drewN ?_ _ | refine bset ?_ (by simp <;> omega) _ | refine bal ?_ _)) hb5
    have H5 := Lib.hid h5
    obtain ⟨n5, a5, c5, l5, rfl, -⟩ := h5
    unfold iv at *
    have hw5 := Below.refl w5.heap.size w5
    clear oc
    have mc := fun W (q : Below w5.heap.size w5 W) => rscale_c _ _ A _ k 65 W (HX.out.keep lims_ref (bthen hB5 q)) (H5.out.keep q) HLA.out HBD.out.1 (const_bd hc.2.1 hc.2.2 (by omega)) (by omega)
    go_wp2_with fail
    refine (mc _ (by repeat (first | exact Below.refl _ _ | exact hw5 | refine Below.drew ?_ | refine below_drewN ?_ _ | refine bset ?_ (by simp <;> omega) _ | refine bal ?_ _))).mono ?_
    rintro e w9 ⟨⟨u, rfl, hu⟩, hb9⟩
    have hB9 : Below w.heap.size w w9 := bthen hB5 (bthen (by repeat (first | exact Below.refl _ _ | exact hw5 | refine Below.drew ?_ | refine below_drewN ?_ _ | refine bset ?_ (by simp <;> omega) _ | refine bal ?_ _)) hb9)
    clear mc
    have HU := Lib.hid (hu.row.rebase (Nat.zero_le _))
    obtain ⟨ua, un, uc, rfl⟩ : ∃ a n c, u = Value.slice a n c := by obtain ⟨a, c, h⟩ := hu.ex; exact ⟨a, _, c, h⟩
    clear hu
    go_wp2
    go_ret2
    exact ansQ_some (stepR_map (fun x => x * ic) fun j hj => by simp [opI]) HU.out (by repeat (first | exact Below.refl _ _ | exact hB9 | refine Below.drew ?_ | refine below_drewN ?_ _ | refine bset ?_ (by simp <;> omega) _ | refine bal ?_ _))
  · rw [constB_mul (.inr rfl)] at HC
    have hc := of_decide_eq_true HC.out
    have oc := fun W => rconst6_c it na nb ic (by omega) (by omega) W
    go_wp2_with fail
    refine (oc _).mono ?_
    rintro e w5 ⟨⟨v5, rfl, h5⟩, hb5⟩
    have hB5 : Below w.heap.size w w5 := bthen (by repeat (first | exact Below.refl _ _ | exact hB | refine Below.drew ?_ | refine below_drewN ?_ _ | refine bset ?_ (by simp <;> omega) _ | refine bal ?_ _)) hb5
    have H5 := Lib.hid h5
    obtain ⟨n5, a5, c5, l5, rfl, -⟩ := h5
    unfold iv at *
    have hw5 := Below.refl w5.heap.size w5
    clear oc
    have mc := fun W (q : Below w5.heap.size w5 W) => rowOverQ_c _ _ A _ (k + 65) W (HX.out.keep lims_ref (bthen hB5 q)) (H5.out.keep q) HLA.out (fun j => (HBD.out.1 j).mono (by omega)) (const_bd hc.2.1 hc.2.2 (by omega)) (by omega) hc.1
    go_wp2_with fail
    refine (mc _ (by repeat (first | exact Below.refl _ _ | exact hw5 | refine Below.drew ?_ | refine below_drewN ?_ _ | refine bset ?_ (by simp <;> omega) _ | refine bal ?_ _))).mono ?_
    rintro e w9 ⟨hp, hb9⟩
    have hB9 : Below w.heap.size w w9 := bthen hB5 (bthen (by repeat (first | exact Below.refl _ _ | exact hw5 | refine Below.drew ?_ | refine below_drewN ?_ _ | refine bset ?_ (by simp <;> omega) _ | refine bal ?_ _)) hb9)
    clear mc
    rcases hp with ⟨⟨j, hj, hne⟩, rfl⟩ | ⟨hall, u, rfl, hu⟩
    · have HNO := Lib.hid (stepR_fail (b := B) hj (show opI ⟨6, it, na, nb, ic⟩ _ _ = none by rw [opI_div, if_neg hne]))
      clear hne
      go_wp2
      go_ret2
      exact ansQ_none HNO.out (by repeat (first | exact Below.refl _ _ | exact hB9 | refine Below.drew ?_ | refine below_drewN ?_ _ | refine bset ?_ (by simp <;> omega) _ | refine bal ?_ _))
    · have HYE := Lib.hid (show stepR ⟨6, it, na, nb, ic⟩ A B = some (A.map fun x => x / ic) from stepR_map (fun x => x / ic) fun j hj => by rw [opI_div, if_pos (hall j hj)])
      clear hall
      have HU := Lib.hid (hu.row.rebase (Nat.zero_le _))
      obtain ⟨ua, un, uc, rfl⟩ : ∃ a n c, u = Value.slice a n c := by obtain ⟨a, c, h⟩ := hu.ex; exact ⟨a, _, c, h⟩
      clear hu
      go_wp2
      go_ret2
      exact ansQ_some HYE.out HU.out (by repeat (first | exact Below.refl _ _ | exact hB9 | refine Below.drew ?_ | refine below_drewN ?_ _ | refine bset ?_ (by simp <;> omega) _ | refine bal ?_ _))
  · rw [constB_shift (.inl rfl)] at HC
    have hc := of_decide_eq_true HC.out
    obtain ⟨m', rfl⟩ : ∃ m : Nat, ic = m := ⟨ic.toNat, by omega⟩
    have oc := fun W => rconst7_c it na nb m' (by omega) W
    go_wp2_with fail
    refine (oc _).mono ?_
    rintro e w5 ⟨⟨v5, rfl, h5⟩, hb5⟩
    have hB5 : Below w.heap.size w w5 := bthen (by repeat (first | exact Below.refl _ _ | exact hB | refine Below.drew ?_ | refine below_drewN ?_ _ | refine bset ?_ (by simp <;> omega) _ | refine bal ?_ _)) hb5
    have H5 := Lib.hid h5
    obtain ⟨n5, a5, c5, l5, rfl, -⟩ := h5
    unfold iv at *
    have hw5 := Below.refl w5.heap.size w5
    clear oc
    have mc := fun W (q : Below w5.heap.size w5 W) => rscale_c _ _ A _ k 65 W (HX.out.keep lims_ref (bthen hB5 q)) (H5.out.keep q) HLA.out HBD.out.1 (pow2_bd (by omega)) (by omega)
    go_wp2_with fail
    refine (mc _ (by repeat (first | exact Below.refl _ _ | exact hw5 | refine Below.drew ?_ | refine below_drewN ?_ _ | refine bset ?_ (by simp <;> omega) _ | refine bal ?_ _))).mono ?_
    rintro e w9 ⟨⟨u, rfl, hu⟩, hb9⟩
    have hB9 : Below w.heap.size w w9 := bthen hB5 (bthen (by repeat (first | exact Below.refl _ _ | exact hw5 | refine Below.drew ?_ | refine below_drewN ?_ _ | refine bset ?_ (by simp <;> omega) _ | refine bal ?_ _)) hb9)
    clear mc
    have HU := Lib.hid (hu.row.rebase (Nat.zero_le _))
    obtain ⟨ua, un, uc, rfl⟩ : ∃ a n c, u = Value.slice a n c := by obtain ⟨a, c, h⟩ := hu.ex; exact ⟨a, _, c, h⟩
    clear hu
    go_wp2
    go_ret2
    exact ansQ_some (stepR_map (fun x => x * 2 ^ m') fun j hj => by simp [opI]) HU.out (by repeat (first | exact Below.refl _ _ | exact hB9 | refine Below.drew ?_ | refine below_drewN ?_ _ | refine bset ?_ (by simp <;> omega) _ | refine bal ?_ _))
  · rw [constB_shift (.inr rfl)] at HC
    have hc := of_decide_eq_true HC.out
    obtain ⟨m', rfl⟩ : ∃ m : Nat, ic = m := ⟨ic.toNat, by omega⟩
    have oc := fun W => rconst8_c it na nb m' (by omega) W
    go_wp2_with fail
    refine (oc _).mono ?_
    rintro e w5 ⟨⟨v5, rfl, h5⟩, hb5⟩
    have hB5 : Below w.heap.size w w5 := bthen (by repeat (first | exact Below.refl _ _ | exact hB | refine Below.drew ?_ | refine below_drewN ?_ _ | refine bset ?_ (by simp <;> omega) _ | refine bal ?_ _)) hb5
    have H5 := Lib.hid h5
    obtain ⟨n5, a5, c5, l5, rfl, -⟩ := h5
    unfold iv at *
    have hw5 := Below.refl w5.heap.size w5
    clear oc
    have mc := fun W (q : Below w5.heap.size w5 W) => rowOverQ_c _ _ A _ (k + 65) W (HX.out.keep lims_ref (bthen hB5 q)) (H5.out.keep q) HLA.out (fun j => (HBD.out.1 j).mono (by omega)) (pow2_bd (by omega)) (by omega) (p2_ne m')
    go_wp2_with fail
    refine (mc _ (by repeat (first | exact Below.refl _ _ | exact hw5 | refine Below.drew ?_ | refine below_drewN ?_ _ | refine bset ?_ (by simp <;> omega) _ | refine bal ?_ _))).mono ?_
    rintro e w9 ⟨hp, hb9⟩
    have hB9 : Below w.heap.size w w9 := bthen hB5 (bthen (by repeat (first | exact Below.refl _ _ | exact hw5 | refine Below.drew ?_ | refine below_drewN ?_ _ | refine bset ?_ (by simp <;> omega) _ | refine bal ?_ _)) hb9)
    clear mc
    rcases hp with ⟨⟨j, hj, hne⟩, rfl⟩ | ⟨hall, u, rfl, hu⟩
    · have HNO := Lib.hid (stepR_fail (b := B) hj (show opI ⟨8, it, na, nb, m'⟩ _ _ = none by rw [opI_shr, if_neg hne]))
      clear hne
      go_wp2
      go_ret2
      exact ansQ_none HNO.out (by repeat (first | exact Below.refl _ _ | exact hB9 | refine Below.drew ?_ | refine below_drewN ?_ _ | refine bset ?_ (by simp <;> omega) _ | refine bal ?_ _))
    · have HYE := Lib.hid (show stepR ⟨8, it, na, nb, m'⟩ A B = some (A.map fun x => x / 2 ^ m') from stepR_map (fun x => x / 2 ^ m') fun j hj => by rw [opI_shr, if_pos (hall j hj)])
      clear hall
      have HU := Lib.hid (hu.row.rebase (Nat.zero_le _))
      obtain ⟨ua, un, uc, rfl⟩ : ∃ a n c, u = Value.slice a n c := by obtain ⟨a, c, h⟩ := hu.ex; exact ⟨a, _, c, h⟩
      clear hu
      go_wp2
      go_ret2
      exact ansQ_some HYE.out HU.out (by repeat (first | exact Below.refl _ _ | exact hB9 | refine Below.drew ?_ | refine below_drewN ?_ _ | refine bset ?_ (by simp <;> omega) _ | refine bal ?_ _))
end Go.Proofs.YtannhpadoooedaaGreatDoor

/- The reference: Follow: a program over a grid. -/
namespace Go.Proofs.YtannhpadoooedaaGreatDoor
open Num
open Go.ChangeShapes Go.WideShapes Go.ChangeAt Go.RowKit
set_option linter.unusedVariables false
set_option linter.unusedSimpArgs false
attribute [local go_sem ↓] Go.wp_at_zero Go.wp_at_succ
/-- the row that the n-th instruction sets -/
def toldR (code : List Ins) (g : Grid) (n : Nat) : List Int :=
  match after code g n with
  | some h => (stepR (code.getD n default) (h.getD (code.getD n default).a.toNat []) (h.getD (code.getD n default).b.toNat [])).getD []
  | none => []
/-- the rows that the first n instructions set -/
def told (code : List Ins) (g : Grid) (n : Nat) : Grid := (List.range n).map (toldR code g)
theorem told_len (code : List Ins) (g : Grid) (n : Nat) : (told code g n).length = n := by simp [told]
theorem told_succ (code : List Ins) (g : Grid) (n : Nat) : told code g (n + 1) = told code g n ++ [toldR code g n] := by
  unfold told; rw [List.range_succ, List.map_append]; rfl
theorem toldR_eq {code : List Ins} {g h : Grid} {n : Nat} {r : List Int} (e : after code g n = some h) (e2 : stepR (code.getD n default) (h.getD (code.getD n default).a.toNat []) (h.getD (code.getD n default).b.toNat []) = some r) : toldR code g n = r := by
  unfold toldR; rw [e]; dsimp only; rw [e2]; rfl
theorem mkRegsQ (n : Nat) (hn : n ≤ 1099511627776) (w : World) : (Instr.makeSlice 41 (.int .i64 (n : Int)) (.int .i64 (n : Int))).run Tryz.prog w = .ok (.slice (some ⟨w.heap.size, 0, none⟩) n n) (w.alloc (.cells (Array.replicate n (.slice none 0 0)) 31)) := by
  obtain ⟨i0, hi, hz0, hz1, hz2⟩ := info_parts infoRw
  have e : madeCells (Value.slice none 0 0).cells ((n : Int).toNat * 1) = Array.replicate n (.slice none 0 0) := by
    apply Array.ext
    · simp [size_madeCells]
    · intro i h1 h2
      simp [madeCells, Value.cells, Nat.mod_one]
  rw [run_make w _ _ i0 _ Tryz.underlying41 hi hz0 .i64 .i64 n n (by omega) (by omega) (by rw [hz2]; omega) (by omega), hz1, e]
  rfl
theorem regsQ_new (w : World) (S : Grid) : RegsQ (w.alloc (.cells (Array.replicate S.length (.slice none 0 0)) 31)) w.heap.size (upG S 0) :=
  ⟨Free.new rfl, typ_fresh rfl, fun k hk => ⟨.slice none 0 0, cell_new rfl (by rw [upG_len (Nat.zero_le _)] at hk; simp [hk]), by
    rw [upG_len (Nat.zero_le _)] at hk
    rw [show (upG S 0).getD k [] = [] by simp [upG, hk]]
    exact IsRow.nil _ _ _ _⟩⟩
/-- a list of the call's own (from base on), built by append; base is free -/
def OwnLB {α : Type} (T : TypeId) (Pr : World → Value → α → Prop) (base : Nat) (w : World) (v : Value) (g : List α) : Prop :=
  ∃ xs, w.ownsRow base T 1 v g.length xs ∧ ∀ k (hk : k < g.length), ∃ u, xs[k]? = some u ∧ Pr w u g[k]
section
variable {α : Type} {S S' : TypeId → Prop} {T : TypeId} {Pr : World → Value → α → Prop} {base : Nat} {w0 wr w' : World} {v u : Value} {g : List α} {y : α}
theorem OwnLB.nil (T : TypeId) (Pr : World → Value → α → Prop) (base : Nat) (w : World) : OwnLB T Pr base w (.slice none 0 0) [] := ⟨[], World.ownsRow_nil _ _ _ _, fun k hk => absurd hk (by simp)⟩
theorem OwnLB.keep (hP : Prs S Pr) (h : OwnLB T Pr base wr v g) (hb : Below wr.heap.size wr w') : OwnLB T Pr base w' v g := by
  obtain ⟨xs, h1, h2⟩ := h
  refine ⟨xs, owns_kp (S := fun _ => True) h1 (Kp.of_below _ hb) trivial, fun k hk => ?_⟩
  obtain ⟨u, hu, hr⟩ := h2 k hk
  exact ⟨u, hu, hP.kp hr (Kp.of_below _ hb)⟩
theorem OwnLB.ex (h : OwnLB T Pr base wr v g) : ∃ a c, v = .slice a g.length c := by
  obtain ⟨xs, ⟨_, h1⟩, _⟩ := h
  rcases h1 with ⟨rfl, h0⟩ | ⟨b, cap, cur, rfl, _⟩
  · exact ⟨none, 0, by rw [h0]⟩
  · exact ⟨_, _, rfl⟩
theorem OwnLB.ownL (h : OwnLB T Pr base wr v g) (hb : Below w0.heap.size w0 wr) (hs : w0.heap.size ≤ base) : OwnL T Pr w0 wr v g := by
  obtain ⟨xs, ⟨hl, h1⟩, h2⟩ := h
  refine ⟨xs, ⟨⟨hl, ?_⟩, hb⟩, h2⟩
  rcases h1 with h1 | ⟨b, cap, cur, hv, hg, r⟩
  · exact .inl h1
  · exact .inr ⟨b, cap, cur, hv, Nat.le_trans hs hg, r⟩
theorem OwnLB.set (hP : Prs S Pr) (h : OwnLB T Pr base wr v g) {p : Addr} {t : TypeId} (ht : typOf wr p.block = some t) (h2 : ¬ S t) (hp : p.block < base) (y : Value) : OwnLB T Pr base (wr.setCell p y) v g := by
  obtain ⟨xs, hO, hx⟩ := h
  have hk : Kp S wr (wr.setCell p y) := (Kp.refl _ _).set (fun t' ht' => by rw [ht] at ht'; cases ht'; exact h2) y
  refine ⟨xs, ownsRow_setCell_other hO ?_ y, fun k hk' => ?_⟩
  · intro hb
    have := (hO.lt _ hb).1
    omega
  · obtain ⟨u, hu, hr⟩ := hx k hk'
    exact ⟨u, hu, hP.kp hr hk⟩
end
section
variable {α : Type} {P : Program} {TT T : TypeId} {bytes : Nat} {S : TypeId → Prop} {Pr : World → Value → α → Prop} {ops : Array Oper} {o : Oper} {a : Act} {Q : Exit → Act → World → Prop} {base : Nat} {wr : World} {v u : Value} {g : List α} {y : α} {s x : Operand} {cc gb : Nat}
/-- append of one value to such a list -/
theorem appLB {rest : List Oper} (el : Elt P TT T 1 bytes) (hP : Prs S Pr) (hT : ¬ S T) (hgd : o.guard = none)
    (ho : o.op = .call { callee := .builtin .append, args := #[s, x], argTypes := #[TT, TT] }) (hO : OwnLB T Pr base wr v g) (hbase : base ≤ wr.heap.size) (hv : Pr wr u y) (hs : a.eval s = v)
    (hx : a.eval x = .slice (some ⟨gb, 0, none⟩) 1 cc) (hc : wr.cell? ⟨gb, 0, none⟩ = some u) (hn : (g.length + 1) * bytes ≤ 140737488355328) (hn2 : g.length + 1 ≤ maxLen)
    (h : ∀ v' w', OwnLB T Pr base w' v' (g ++ [y]) → Kp (· ≠ T) wr w' → Out (fun k => base ≤ k) wr w' → wpList P ops Q rest (a.put o.dst v') w') : wpList P ops Q (o :: rest) a wr := by
  refine wpList_plain hgd fun K hK => ?_
  obtain ⟨i, z0, hi, hz, hsize, hby, hzs⟩ := el.info
  obtain ⟨xs, h1, h2⟩ := hO
  have hone : u.oneCell' = true := hP.one hv
  refine wp_append_own _ s x TT ho base T i z0 1 bytes el.ht hi hz hsize hby hzs el.pos v g.length xs hs h1 ⟨gb, 0, none⟩ 1 cc [u] hx rfl (fun j y hj => ?_) (fun y hy => by simp at hy; subst hy; exact hone) hn2 hn hbase ?_
  · have hj1 : j < 1 := (List.getElem?_eq_some_iff.1 hj).1
    obtain rfl : j = 0 := by omega
    simp at hj; subst hj
    simpa [Addr.add] using hc
  intro v' w' hown hg _
  have hk : Kp (· ≠ T) wr w' := (Kp.refl _ wr).grown hg fun q hg' t' ht hne => hne (by
    rw [own_typ' h1 hg'] at ht
    exact (Option.some.inj ht).symm)
  refine hK _ _ (h v' w' ⟨_, by simpa using hown, fun j hj => ?_⟩ hk ((Out.refl _ wr).grown hg fun k hk' _ => (h1.lt k hk').1))
  simp at hj
  by_cases e : j < g.length
  · obtain ⟨u', hu', hr⟩ := h2 j e
    exact ⟨u', by rw [List.getElem?_append_left (by rw [h1.1]; omega)]; exact hu', by rw [List.getElem_append_left e]; exact hP.kp hr (hk.weak fun t hs e => hT (e ▸ hs))⟩
  · obtain rfl : j = g.length := by omega
    exact ⟨u, by rw [List.getElem?_append_right (by rw [h1.1]; omega), h1.1]; simp, by rw [List.getElem_append_right (by omega)]; simpa using hP.kp hv (hk.weak fun t hs e => hT (e ▸ hs))⟩
end
theorem RegsQ.grown {wr w' : World} {rb base : Nat} {g : Grid} (h : RegsQ wr rb g) (hk : Kp (· ≠ 31) wr w') (ho : Out (fun k => base ≤ k) wr w') (hb : rb < base) : RegsQ w' rb g := by
  have hx : ¬ (base ≤ rb) := by omega
  exact ⟨h.free.out ho hx, typ_out h.ty ho hx, fun j hj => by
    obtain ⟨u, hu, hr⟩ := h.cell j hj
    exact ⟨u, okeep ho hu hx, hr.kp lims_ref hk (by decide) (by decide)⟩⟩
abbrev GridQ (w : World) (v : Value) (g : Grid) : Prop := IsL 31 (RRow 0) 0 w v g
/-- what Follow answers, where the program may be and the grid fits -/
def FollowP (code : List Ins) (outs : List Int) (G : Grid) (w : World) (e : Ending) (w' : World) : Prop :=
  ((∃ (m : Nat) (h : Grid) (v : Value), m < code.length ∧ after code G m = some h ∧ after code G (m + 1) = none ∧ e = .returned (.tuple #[v, .int .i64 m, .slice none 0 0]) ∧ OwnL 31 (RRow 0) w w' v (told code G m)) ∨
   (∃ (h : Grid) (v u : Value), after code G code.length = some h ∧ e = .returned (.tuple #[v, .int .i64 (-1), u]) ∧ OwnL 31 (RRow 0) w w' v (told code G code.length) ∧ OwnL 31 (RRow 0) w w' u (outsG outs h))) ∧ Below w.heap.size w w'
set_option maxRecDepth 100000 in
set_option maxHeartbeats 16000000 in
theorem follow_c (ins : Int) (R : Nat) (ca oa : Option Addr) (cc oc : Nat) (code : List Ins) (outs : List Int) (vg : Value) (g : Grid) (m K : Nat) (w : World) (hc : InsV w ca cc code) (ho : IntsV w oa oc outs) (hg : GridQ w vg g) (hok : ProgOk ins R code outs) (hle : (g.length : Int) = ins) (hr : Rect m g) (hm : (g.getD 0 []).length = m) (hm2 : m ≤ 4096) (hb : BdG K g) (hK : K ≤ 2147483648) :
    Calls Tryz.prog 16 #[.agg #[.int .i64 ins, .int .i64 (R : Int), .slice ca code.length cc, .slice oa outs.length oc], vg] w (FollowP code outs (startG g R m) w) := by
  have HOK := Lib.hid hok
  have HC := Lib.hid (And.intro hc ho)
  have HM := Lib.hid hm
  have HRE := Lib.hid hr
  have HBD := Lib.hid hb
  obtain ⟨ga, gc, rfl, hgc, hv⟩ := hg.view
  have HV := Lib.hid hv
  have h0 : 0 < g.length := by have := hok.i1; omega
  have hgR : g.length ≤ R := by have := hok.i2; omega
  have hR128 : R ≤ 128 := by have := hok.r1; omega
  clear hc ho hg hv hok hle hr hm hb
  have hB := Below.refl w.heap.size w
  obtain ⟨gb, go, u0, rfl, hu0, hr0⟩ := HV.out 0 h0
  obtain ⟨a0, x0, rfl, -⟩ := hr0
  rw [Nat.add_zero, show (g[0]'h0) = g.getD 0 [] by simp [h0], HM.out] at hu0
  have HU0 := Lib.hid hu0
  have zgb : gb < w.heap.size := cell_lt hu0
  have hgp : (0 : Int) < (g.length : Int) := by omega
  have hmk := mkRegsQ R (by omega)
  have HSL := Lib.hid (startG_len (n := m) hgR)
  clear hu0
  go_enter Tryz.func16, Tryz.ntmps16
  go_wp2
  refine wp_name fun w1 hW1 => ?_
  have hw0 := Below.refl w.heap.size w
  have hB1 : Below w.heap.size w w1 := by rw [hW1]; repeat (first | exact Below.refl _ _ | exact hw0 | refine Below.drew ?_ | refine below_drewN ?_ _ | refine bset ?_ (by simp <;> omega) _ | refine bal ?_ _)
  have p1 : w1.cell? ⟨w.heap.size, 1, none⟩ = some (.int .i64 (R : Int)) := by rw [hW1]; simp [go_sem]
  have p2 : w1.cell? ⟨w.heap.size, 2, none⟩ = some (.slice ca code.length cc) := by rw [hW1]; simp [go_sem]
  have p3 : w1.cell? ⟨w.heap.size, 3, none⟩ = some (.slice oa outs.length oc) := by rw [hW1]; simp [go_sem]
  have HRQ1 : Hid (RegsQ w1 (w.heap.size + 1) (upG (startG g R m) 0)) := Lib.hid (by
    have := regsQ_new (w.alloc (.cells #[.int .i64 ins, .int .i64 (R : Int), .slice ca code.length cc, .slice oa outs.length oc] 25)) (startG g R m)
    rw [HSL.out] at this
    rw [hW1]
    simpa using this)
  obtain ⟨rb, hrb⟩ : ∃ rb, rb = w.heap.size + 1 := ⟨_, rfl⟩
  rw [← hrb] at HRQ1 ⊢
  have hne : ¬ w.heap.size = rb := by omega
  have hneg : ¬ gb = rb := by omega
  have HP := Lib.hid (show ∀ W, Out (fun k => k = rb) w1 W → W.cell? ⟨w.heap.size, 1, none⟩ = some (.int .i64 (R : Int)) ∧ W.cell? ⟨w.heap.size, 2, none⟩ = some (.slice ca code.length cc) ∧ W.cell? ⟨w.heap.size, 3, none⟩ = some (.slice oa outs.length oc) from fun W h => ⟨okeep h p1 hne, okeep h p2 hne, okeep h p3 hne⟩)
  have hrbz : w.heap.size ≤ rb := by omega
  have HB1 := Lib.hid hB1
  clear hW1 hmk p1 p2 p3 hrb hw0 hB
  go_loopw [8] (fun x wr => ∃ k : Nat, k ≤ R ∧ x = .int .i64 k ∧ Out (fun q => q = rb) w1 wr ∧ Hid (RegsQ wr rb (upG (startG g R m) k))) (fun x _ => R - (intOf x).toNat)
  case atStart => exact ⟨0, Nat.zero_le _, rfl, Out.refl _ _, HRQ1⟩
  case round =>
    obtain ⟨k, hk, rfl, hO, hRQ⟩ := hrel
    obtain ⟨p1, p2, p3⟩ := HP.out wr hO
    have zp := cell_lt p1
    have hBr : Below w.heap.size w wr := HB1.out.trans (hO.to_below (fun q hq _ e => by omega) HB1.out.size)
    by_cases hlt : k < R
    · have hltI : (k : Int) < (R : Int) := by omega
      have hu0 := bkeep hBr HU0.out
      have zu0 := cell_lt hu0
      have zc := fun W => rzero_c m W (by omega)
      have HSET := Lib.hid (upG_set (S := startG g R m) (k := k) (by rw [HSL.out]; exact hlt))
      have hw := Below.refl wr.heap.size wr
      go_wp2_with fail
      refine (zc _).mono ?_
      rintro e w5 ⟨⟨a5, c5, rfl, h5⟩, hb5⟩
      have hb5' : Below wr.heap.size wr w5 := bthen (by repeat (first | exact Below.refl _ _ | exact hw | refine Below.drew ?_ | refine below_drewN ?_ _ | refine bset ?_ (by simp <;> omega) _ | refine bal ?_ _)) hb5
      have hR5 := hRQ.out.keep hb5'
      have hkl : k < (upG (startG g R m) k).length := by rw [upG_len (by rw [HSL.out]; omega), HSL.out]; exact hlt
      obtain ⟨uo, o0, -⟩ := hR5.cell k hkl
      have of0 := hR5.free.2 k
      have zo := cell_lt o0
      have HR6 := Lib.hid (hR5.step (h5.row.rebase (Nat.zero_le _)) hkl)
      have hO5 := hO.below hb5'
      clear hR5 zc h5 hu0
      go_upto_region 6 with (fail)
      refine wp_name fun w6 hW6 => ?_
      have HR6' : Hid (RegsQ w6 rb ((upG (startG g R m) k).set k (List.replicate m 0))) := Lib.hid (by rw [hW6]; exact HR6.out)
      have hO6 : Out (fun q => q = rb) w1 w6 := by rw [hW6]; exact hO5.set (fun _ => rfl) _
      clear hW6 HR6 o0 of0 hO5
      have hB6 : Below w.heap.size w w6 := HB1.out.trans (hO6.to_below (fun q hq _ e => by omega) HB1.out.size)
      by_cases hkg : k < g.length
      · have hkgI : (k : Int) < (g.length : Int) := by omega
        obtain ⟨gb', go', u, he, hu, hrow⟩ := HV.out k hkg
        cases he
        rw [show (g[k]'hkg) = g.getD k [] by simp [hkg]] at hrow
        have hu6 := bkeep hB6 hu
        obtain ⟨uo2, o2, -⟩ := HR6'.out.cell k (by rw [List.length_set]; exact hkl)
        have of2 := HR6'.out.free.2 k
        have zo2 := cell_lt o2
        have HR7 := Lib.hid (show RegsQ (w6.setCell ⟨rb, k, none⟩ u) rb (upG (startG g R m) (k + 1)) by
          have h7 := HR6'.out.step (hrow.keep lims_ref hB6) (by rw [List.length_set]; exact hkl)
          rwa [List.set_set, show g.getD k [] = (startG g R m).getD k [] from (startG_lo hkg).symm, HSET.out] at h7)
        have hO7 : Out (fun q => q = rb) w1 (w6.setCell ⟨rb, k, none⟩ u) := hO6.set (fun _ => rfl) _
        obtain ⟨ra, rn, rcc, rfl⟩ : ∃ a n c, u = Value.slice a n c := by obtain ⟨a, c, h, _⟩ := hrow; exact ⟨a, _, c, h⟩
        clear hu hrow HSET
        go_wp2
        exact ⟨⟨k + 1, by omega, by go_num, hO7, HR7⟩, by simp [intOf]; omega⟩
      · have hkgI : ¬ (k : Int) < (g.length : Int) := by omega
        have HR7 := Lib.hid (show RegsQ w6 rb (upG (startG g R m) (k + 1)) by
          have h7 := HR6'.out
          rwa [show List.replicate m 0 = (startG g R m).getD k [] from (startG_hi (by omega) hlt).symm, HSET.out] at h7)
        clear HSET
        go_wp2
        exact ⟨⟨k + 1, by omega, by go_num, hO6, HR7⟩, by simp [intOf]; omega⟩
    · obtain rfl : k = R := by omega
      have HRR := Lib.hid (show RegsQ wr rb (startG g k m) by
        have := hRQ.out
        have e := upG_all (startG g k m)
        rw [HSL.out] at e
        rw [e] at this
        exact this)
      have hzr : rb < wr.heap.size := HRR.out.free.1
      have HOX := Lib.hid hO
      have HSR := Lib.hid (startG_rect (regs := k) HRE.out)
      have HSB := Lib.hid (startG_bd (regs := k) (n := m) HBD.out)
      have HBX := Lib.hid hBr
      have hbase : w.heap.size ≤ wr.heap.size := hBr.size
      obtain ⟨G, hG⟩ : ∃ G, startG g k m = G := ⟨_, rfl⟩
      rw [hG] at HSL HRR HSR HSB
      have HGG := Lib.hid hG
      obtain ⟨w2, hw2⟩ : ∃ w2, wr = w2 := ⟨_, rfl⟩
      rw [hw2] at HRR hzr HOX HBX hbase p1 p2 p3 zp ⊢
      clear hw2 hG hO hBr hRQ
      go_wp2
      go_loopw [9, 10] (fun v x wq => ∃ n : Nat, n ≤ code.length ∧ x = .int .i64 n ∧ Out (fun q => q = rb) w2 wq ∧ Hid (OwnLB 31 (RRow 0) w2.heap.size wq v (told code G n)) ∧ Hid (∃ h, after code G n = some h ∧ RegsQ wq rb h)) (fun _ x _ => code.length - (intOf x).toNat)
      case atStart => exact ⟨0, Nat.zero_le _, rfl, Out.refl _ _, Lib.hid (OwnLB.nil _ _ _ _), Lib.hid ⟨G, rfl, HRR.out⟩⟩
      case round =>
        rename World => wq
        obtain ⟨n, hn, rfl, hO, hT, hrel⟩ := hrel
        obtain ⟨h, hs, hI⟩ := hrel.out
        have hOX := HOX.out.trans hO
        obtain ⟨p1, p2, p3⟩ := HP.out wq hOX
        have zp := cell_lt p2
        have hBq : Below w.heap.size w wq := HB1.out.trans (hOX.to_below (fun q hq _ e => by omega) HB1.out.size)
        have HS := Lib.hid (And.intro hs hI)
        have hsl := (after_len hs).trans HSL.out
        have HRC := Lib.hid (after_rect HSR.out HSL.out (fun n hn => by have := (ins_of HOK.out hn).a1; have := (ins_of HOK.out hn).a0; rw [Int.toNat_natCast] at *; omega) hn hs)
        have HBN := Lib.hid (after_bd HSB.out (cs_of HOK.out) hn hs)
        have HHL := Lib.hid hsl
        have hsz2 : w2.heap.size ≤ wq.heap.size := hO.size
        obtain ⟨ta, tc, htv⟩ := hT.out.ex
        rw [told_len] at htv
        subst htv
        clear hs hI hrel hsl
        have hcl := HOK.out.c1
        by_cases hlt : n < code.length
        · have hltI : (n : Int) < (code.length : Int) := by omega
          rcases HC.out.1 with h00 | ⟨cb, co, rfl, hcap, hcell⟩
          · rw [h00] at hlt; simp at hlt
          obtain ⟨q0, q1, q2, q3, q4⟩ := hcell n hlt
          have zcb := cell_lt q0
          have hcb : ¬ cb = rb := by omega
          have HQ1 := Lib.hid q1
          replace q0 := bkeep hBq q0
          replace q1 := bkeep hBq q1
          replace q2 := bkeep hBq q2
          replace q3 := bkeep hBq q3
          replace q4 := bkeep hBq q4
          have zq := cell_lt q0
          have hio := ins_of HOK.out hlt
          rw [Int.toNat_natCast] at hio
          have dc := fun W (q : Below wq.heap.size wq W) => rdo_c (code.getD n default) (K + 65 * n) rb k m h W (HS.out.2.keep q) (by rw [HHL.out]; exact hio) HRC.out (by omega) HBN.out (by omega) (by rw [HHL.out]; exact hR128)
          rw [HHL.out] at dc
          have HNX := Lib.hid (fun (h : Grid) (e : after code G n = some h) => (show after code G (n + 1) = (stepR (code.getD n default) (h.getD (code.getD n default).a.toNat []) (h.getD (code.getD n default).b.toNat [])).map fun r => h.set (code.getD n default).to.toNat r by rw [after, e]; rfl))
          have t0 := hio.t0
          have t1 := hio.t1
          obtain ⟨Z, hZ⟩ : ∃ Z, stepR (code.getD n default) (h.getD (code.getD n default).a.toNat []) (h.getD (code.getD n default).b.toNat []) = Z := ⟨_, rfl⟩
          rw [hZ] at dc
          have HZ := Lib.hid hZ
          have HTO := Lib.hid (fun (r : List Int) (e : Z = some r) => toldR_eq HS.out.1 (HZ.out.trans e))
          obtain ⟨i, hi⟩ : ∃ i, i = code.getD n default := ⟨_, rfl⟩
          rw [← hi] at q0 q1 q2 q3 q4 dc t0 t1 HQ1
          have HIN := Lib.hid hi
          clear hi hcell hio hZ
          obtain ⟨op, it, ia, ib, ic⟩ := i
          dsimp only at q0 q1 q2 q3 q4 t0 t1 HQ1
          obtain ⟨nt, rfl⟩ : ∃ x : Nat, it = x := ⟨it.toNat, by omega⟩
          have t1' : nt < k := by omega
          unfold Ins.v at dc
          dsimp only at dc
          unfold AnsQ at dc
          have hw := Below.refl wq.heap.size wq
          cases Z with
          | none =>
            dsimp only at dc
            go_wp2_with fail
            refine (dc _ (by repeat (first | exact Below.refl _ _ | exact hw | refine Below.drew ?_ | refine below_drewN ?_ _ | refine bset ?_ (by simp <;> omega) _ | refine bal ?_ _))).mono ?_
            rintro e w5 ⟨rfl, hb5⟩
            have hB5 : Below wq.heap.size wq w5 := bthen (by repeat (first | exact Below.refl _ _ | exact hw | refine Below.drew ?_ | refine below_drewN ?_ _ | refine bset ?_ (by simp <;> omega) _ | refine bal ?_ _)) hb5
            have HT5 := Lib.hid ((hT.out.keep (prs_row lims_ref _ _) hB5).ownL (bthen hBq hB5) hbase)
            have HFA := Lib.hid (show after code G (n + 1) = none by rw [HNX.out h HS.out.1, HZ.out]; rfl)
            clear dc
            go_wp2
            go_ret3
            have e := HGG.out
            subst e
            exact ⟨.inl ⟨n, h, _, hlt, HS.out.1, HFA.out, rfl, HT5.out⟩, bthen hBq hB5⟩
          | some z =>
            dsimp only at dc
            go_wp2_with fail
            refine (dc _ (by repeat (first | exact Below.refl _ _ | exact hw | refine Below.drew ?_ | refine below_drewN ?_ _ | refine bset ?_ (by simp <;> omega) _ | refine bal ?_ _))).mono ?_
            rintro e w5 ⟨⟨v5, rfl, hi5⟩, hb5⟩
            have hB5 : Below wq.heap.size wq w5 := bthen (by repeat (first | exact Below.refl _ _ | exact hw | refine Below.drew ?_ | refine below_drewN ?_ _ | refine bset ?_ (by simp <;> omega) _ | refine bal ?_ _)) hb5
            have hBw5 := bthen hBq hB5
            have HV5 := Lib.hid hi5
            obtain ⟨a5, n5, c5, rfl⟩ : ∃ a n c, v5 = Value.slice a n c := by obtain ⟨a, c, h, _⟩ := hi5; exact ⟨a, _, c, h⟩
            have hT5 := hT.out.keep (prs_row lims_ref _ _) hB5
            have hR5 := HS.out.2.keep hB5
            have hnt : nt < h.length := by rw [HHL.out]; exact t1'
            have q15 := bkeep hBw5 HQ1.out
            have zq15 := cell_lt q15
            have p25 := bkeep hB5 p2
            have zp25 := cell_lt p25
            obtain ⟨u0, o0, -⟩ := hR5.cell nt hnt
            have of0 := hR5.free.2 nt
            have zo := cell_lt o0
            have hN : Hid (∀ W, W = w5.setCell ⟨rb, nt, none⟩ (.slice a5 n5 c5) → RegsQ W rb (h.set nt z) ∧ RRow 0 W (.slice a5 n5 c5) z ∧ Out (fun q => q = rb) w2 W ∧ OwnLB 31 (RRow 0) w2.heap.size W (.slice ta n tc) (told code G n)) := Lib.hid fun W hW => by
              subst hW
              have hk : Kp (· ≠ 31) w5 (w5.setCell ⟨rb, nt, none⟩ (.slice a5 n5 c5)) := (Kp.refl _ w5).set (fun t ht => by rw [hR5.ty] at ht; cases ht; exact fun k => k rfl) _
              exact ⟨hR5.step HV5.out hnt, HV5.out.kp lims_ref hk (by decide) (by decide), (hO.below hB5).set (fun _ => rfl) _, hT5.set (prs_row lims_ref _ _) hR5.ty (by decide) hzr _⟩
            have HST := Lib.hid (show after code G (n + 1) = some (h.set nt z) by rw [HNX.out h HS.out.1, HZ.out, ← HIN.out, Option.map_some]; dsimp only; rw [Int.toNat_natCast])
            have HTL := Lib.hid (show told code G n ++ [z] = told code G (n + 1) by rw [told_succ, HTO.out z rfl])
            clear dc hi5 hT5 hR5
            go_upto_region 16 with (fail)
            refine wp_name fun w6 hW6 => ?_
            have HN6 := Lib.hid (hN.out w6 hW6)
            have hz6 : w2.heap.size ≤ w6.heap.size := HN6.out.2.2.1.size
            clear hW6 hN o0 of0 q0 q1 q2 q3 q4 q15 p25 p1 p2 p3
            go_wp2_with (at_builtin; refine appLB elRws (prs_row lims_ref _ _) (by decide) (by rfl) (by rfl) (HN6.out.2.2.2.keep (prs_row lims_ref _ _) (bal (Below.refl _ _) _)) (Nat.le_trans hz6 (by simp)) (HN6.out.2.1.keep lims_ref (bal (Below.refl _ _) _)) (by rfl) (by rfl) (cell_new rfl rfl) (by rw [told_len]; omega) (by rw [told_len]; unfold maxLen; omega) ?_)
            intro v7 w7 hT7 hk7 ho7
            rw [HTL.out] at hT7
            have HT7 := Lib.hid hT7
            have HR7 := Lib.hid (show ∃ h', after code G (n + 1) = some h' ∧ RegsQ w7 rb h' from ⟨_, HST.out, (HN6.out.1.keep (bal (Below.refl _ _) _)).grown hk7 ho7 hzr⟩)
            have hO7 : Out (fun q => q = rb) w2 w7 := ((HN6.out.2.2.1.alloc _).then ho7 fun i h1 h2 => by omega)
            clear hT7 hk7 ho7 HN6
            go_wp2
            exact ⟨⟨n + 1, by omega, by go_num, hO7, HT7, HR7⟩, by simp [intOf]; omega⟩
        · obtain rfl : n = code.length := by omega
          have HTF := Lib.hid hT.out
          have hbw := Below.refl wq.heap.size wq
          have HBQ := Lib.hid hBq
          obtain ⟨w3, hw3⟩ : ∃ w3, wq = w3 := ⟨_, rfl⟩
          rw [hw3] at HTF hbw HBQ HS p1 p2 p3 zp ⊢
          clear hw3 hT hBq hO hOX
          have HP3 := Lib.hid (And.intro p2 p3)
          go_wp2
          go_loopw [13, 14] (fun u x wz => ∃ q : Nat, q ≤ outs.length ∧ x = .int .i64 q ∧ Hid (OwnL 31 (RRow 0) w3 wz u (outsG (outs.take q) h))) (fun _ x _ => outs.length - (intOf x).toNat)
          case atStart => exact ⟨0, Nat.zero_le _, rfl, Lib.hid (OwnL.nil _ _ hbw)⟩
          case round =>
            rename World => wz
            obtain ⟨q, hq, rfl, hO⟩ := hrel
            have hbz := hO.out.bel
            have hBz := bthen HBQ.out hbz
            have hol := HOK.out.o2
            have hlen : (outsG (outs.take q) h).length = q := by simp [outsG]; omega
            obtain ⟨va, vc, hv⟩ := hO.out.ex
            rw [hlen] at hv
            subst hv
            have HLEN := Lib.hid hlen
            have p3 := bkeep hbz HP3.out.2
            have zp3 := cell_lt p3
            clear hlen
            by_cases hlt3 : q < outs.length
            · have hltI : (q : Int) < (outs.length : Int) := by omega
              obtain ⟨q1, q2⟩ := HOK.out.os q hlt3
              rcases HC.out.2 with h00 | ⟨ob, off, rfl, hcap, hcell⟩
              · rw [h00] at hlt3; simp at hlt3
              have hc := bkeep hBz (hcell q hlt3)
              have zob := cell_lt hc
              obtain ⟨r, hr⟩ : ∃ r : Nat, outs.getD q 0 = r := ⟨(outs.getD q 0).toNat, by omega⟩
              rw [hr] at hc q1 q2
              have hrl : r < k := by omega
              have hrl2 : r < h.length := by rw [HHL.out]; exact hrl
              obtain ⟨u, hu, hrow⟩ := HS.out.2.cell r hrl2
              have hu2 := bkeep hbz hu
              have zu := cell_lt hu2
              have HROW := Lib.hid (hrow.keep lims_ref hbz)
              have HN := Lib.hid (show outsG (outs.take (q + 1)) h = outsG (outs.take q) h ++ [h.getD r []] by
                rw [List.take_succ_eq_append_getElem hlt3]
                have e : outs[q] = r := by rw [← hr]; simp [hlt3]
                unfold outsG; rw [List.map_append, List.map_singleton, e, Int.toNat_natCast])
              obtain ⟨ua, un, uc, rfl⟩ : ∃ a n c, u = Value.slice a n c := by obtain ⟨a, c, h, _⟩ := hrow; exact ⟨a, _, c, h⟩
              obtain ⟨L, hL⟩ : ∃ L, h.getD r [] = L := ⟨_, rfl⟩
              rw [hL] at HROW HN
              clear hr hcell hu hL hrow
              go_wp2_with (at_builtin; refine appL elRws (prs_row lims_ref _ _) (by decide) (by rfl) (by rfl) (hO.out.below (prs_row lims_ref _ _) (bal (Below.refl _ _) _)) (HROW.out.keep lims_ref (bal (Below.refl _ _) _)) (by rfl) (by rfl) (cell_new rfl rfl) (by rw [HLEN.out]; omega) (by rw [HLEN.out]; unfold maxLen; omega) ?_)
              intro v' w8 hO8 hk8
              rw [← HN.out] at hO8
              have HO8 := Lib.hid hO8
              clear hO8 hk8
              go_wp2
              exact ⟨⟨q + 1, by omega, by go_num, HO8⟩, by simp [intOf]; omega⟩
            · obtain rfl : q = outs.length := by omega
              rw [List.take_length] at hO
              have HT9 := Lib.hid ((HTF.out.keep (prs_row lims_ref _ _) hbz).ownL hBz hbase)
              have HO9 := Lib.hid (hO.out.rebase HBQ.out)
              go_wp2
              go_ret3
              have e := HGG.out
              subst e
              exact ⟨.inr ⟨h, _, _, HS.out.1, rfl, HT9.out, HO9.out⟩, hBz⟩
end Go.Proofs.YtannhpadoooedaaGreatDoor

/- The reference's programs: May. -/
namespace Go.Proofs.YtannhpadoooedaaGreatDoor
open Go.ChangeShapes Go.WideShapes Go.ChangeAt Go.RowKit
set_option linter.unusedVariables false
set_option linter.unusedSimpArgs false
theorem mayB_34 {op t a b c regs : Int} (h : op = 3 ∨ op = 4) : mayB op t a b c regs = decide (0 ≤ t ∧ t < regs ∧ c = 0 ∧ 0 ≤ a ∧ a < regs ∧ 0 ≤ b ∧ b < regs) := by
  unfold mayB; rcases h with rfl | rfl <;> (rw [Bool.eq_iff_iff]; simp [twoB, constB] <;> omega)
theorem mayB_12 {op t a b c regs : Int} (h : op = 1 ∨ op = 2) : mayB op t a b c regs = decide (0 ≤ t ∧ t < regs ∧ c = 0 ∧ 0 ≤ a ∧ a < regs ∧ b = 0) := by
  unfold mayB; rcases h with rfl | rfl <;> (rw [Bool.eq_iff_iff]; simp [twoB, constB] <;> omega)
theorem mayB_56 {op t a b c regs : Int} (h : op = 5 ∨ op = 6) : mayB op t a b c regs = decide (0 ≤ t ∧ t < regs ∧ c ≠ 0 ∧ -512 ≤ c ∧ c ≤ 512 ∧ 0 ≤ a ∧ a < regs ∧ b = 0) := by
  unfold mayB; rcases h with rfl | rfl <;> (rw [Bool.eq_iff_iff]; simp [twoB, constB] <;> omega)
theorem mayB_78 {op t a b c regs : Int} (h : op = 7 ∨ op = 8) : mayB op t a b c regs = decide (0 ≤ t ∧ t < regs ∧ 1 ≤ c ∧ c ≤ 64 ∧ 0 ≤ a ∧ a < regs ∧ b = 0) := by
  unfold mayB; rcases h with rfl | rfl <;> (rw [Bool.eq_iff_iff]; simp [twoB, constB] <;> omega)
set_option maxRecDepth 100000 in
set_option maxHeartbeats 8000000 in
theorem rmay_c (op t a b c regs : Int) (w : World) : Calls Tryz.prog 106 #[.agg #[.int .i64 op, .int .i64 t, .int .i64 a, .int .i64 b, .int .i64 c], .int .i64 regs] w fun e w' => e = .returned (.bool (mayB op t a b c regs)) ∧ Below w.heap.size w w' := by
  by_cases h1 : op < 1
  · have HM := Lib.hid (show mayB op t a b c regs = false from mayB_no (by omega))
    go_enter Tryz.func106, Tryz.ntmps106
    go_wp2
    go_ret
    exact ⟨bret (by rw [HM.out]), by repeat (first | exact Below.refl _ _ | assumption | refine bset ?_ (by simp) _ | refine bal ?_ _)⟩
  by_cases h2 : 8 < op
  · have HM := Lib.hid (show mayB op t a b c regs = false from mayB_no (by omega))
    go_enter Tryz.func106, Tryz.ntmps106
    go_wp2
    go_ret
    exact ⟨bret (by rw [HM.out]), by repeat (first | exact Below.refl _ _ | assumption | refine bset ?_ (by simp) _ | refine bal ?_ _)⟩
  by_cases h3 : t < 0
  · have HM := Lib.hid (show mayB op t a b c regs = false from mayB_no (by omega))
    go_enter Tryz.func106, Tryz.ntmps106
    go_wp2
    go_ret
    exact ⟨bret (by rw [HM.out]), by repeat (first | exact Below.refl _ _ | assumption | refine bset ?_ (by simp) _ | refine bal ?_ _)⟩
  by_cases h4 : regs ≤ t
  · have HM := Lib.hid (show mayB op t a b c regs = false from mayB_no (by omega))
    go_enter Tryz.func106, Tryz.ntmps106
    go_wp2
    go_ret
    exact ⟨bret (by rw [HM.out]), by repeat (first | exact Below.refl _ _ | assumption | refine bset ?_ (by simp) _ | refine bal ?_ _)⟩
  by_cases h5 : a < 0
  · have HM := Lib.hid (show mayB op t a b c regs = false from mayB_no (by omega))
    go_enter Tryz.func106, Tryz.ntmps106
    go_wp2
    go_ret
    exact ⟨bret (by rw [HM.out]), by repeat (first | exact Below.refl _ _ | assumption | refine bset ?_ (by simp) _ | refine bal ?_ _)⟩
  by_cases h6 : regs ≤ a
  · have HM := Lib.hid (show mayB op t a b c regs = false from mayB_no (by omega))
    go_enter Tryz.func106, Tryz.ntmps106
    go_wp2
    go_ret
    exact ⟨bret (by rw [HM.out]), by repeat (first | exact Below.refl _ _ | assumption | refine bset ?_ (by simp) _ | refine bal ?_ _)⟩
  have hop : op = 1 ∨ op = 2 ∨ op = 3 ∨ op = 4 ∨ op = 5 ∨ op = 6 ∨ op = 7 ∨ op = 8 := by omega
  have h12 : ¬ op < 1 ∧ ¬ 8 < op := ⟨h1, h2⟩
  clear h1 h2 h12
  rcases hop with rfl | rfl | rfl | rfl | rfl | rfl | rfl | rfl
  ·
    rw [mayB_12 (.inl rfl)]
    go_enter Tryz.func106, Tryz.ntmps106
    go_wp2
    all_goals go_ret
    all_goals exact ⟨bret (by first | (rw [Bool.eq_iff_iff]; done) | (rw [Bool.eq_iff_iff]; simp; first | done | omega | (simp_all; done) | (simp_all; omega))), by repeat (first | exact Below.refl _ _ | assumption | refine bset ?_ (by simp) _ | refine bal ?_ _)⟩
  ·
    rw [mayB_12 (.inr rfl)]
    go_enter Tryz.func106, Tryz.ntmps106
    go_wp2
    all_goals go_ret
    all_goals exact ⟨bret (by first | (rw [Bool.eq_iff_iff]; done) | (rw [Bool.eq_iff_iff]; simp; first | done | omega | (simp_all; done) | (simp_all; omega))), by repeat (first | exact Below.refl _ _ | assumption | refine bset ?_ (by simp) _ | refine bal ?_ _)⟩
  ·
    rw [mayB_34 (.inl rfl)]
    go_enter Tryz.func106, Tryz.ntmps106
    go_wp2
    all_goals go_ret
    all_goals exact ⟨bret (by first | (rw [Bool.eq_iff_iff]; done) | (rw [Bool.eq_iff_iff]; simp; first | done | omega | (simp_all; done) | (simp_all; omega))), by repeat (first | exact Below.refl _ _ | assumption | refine bset ?_ (by simp) _ | refine bal ?_ _)⟩
  ·
    rw [mayB_34 (.inr rfl)]
    go_enter Tryz.func106, Tryz.ntmps106
    go_wp2
    all_goals go_ret
    all_goals exact ⟨bret (by first | (rw [Bool.eq_iff_iff]; done) | (rw [Bool.eq_iff_iff]; simp; first | done | omega | (simp_all; done) | (simp_all; omega))), by repeat (first | exact Below.refl _ _ | assumption | refine bset ?_ (by simp) _ | refine bal ?_ _)⟩
  ·
    rw [mayB_56 (.inl rfl)]
    go_enter Tryz.func106, Tryz.ntmps106
    go_wp2
    all_goals go_ret
    all_goals exact ⟨bret (by first | (rw [Bool.eq_iff_iff]; done) | (rw [Bool.eq_iff_iff]; simp; first | done | omega | (simp_all; done) | (simp_all; omega))), by repeat (first | exact Below.refl _ _ | assumption | refine bset ?_ (by simp) _ | refine bal ?_ _)⟩
  ·
    rw [mayB_56 (.inr rfl)]
    go_enter Tryz.func106, Tryz.ntmps106
    go_wp2
    all_goals go_ret
    all_goals exact ⟨bret (by first | (rw [Bool.eq_iff_iff]; done) | (rw [Bool.eq_iff_iff]; simp; first | done | omega | (simp_all; done) | (simp_all; omega))), by repeat (first | exact Below.refl _ _ | assumption | refine bset ?_ (by simp) _ | refine bal ?_ _)⟩
  ·
    rw [mayB_78 (.inl rfl)]
    go_enter Tryz.func106, Tryz.ntmps106
    go_wp2
    all_goals go_ret
    all_goals exact ⟨bret (by first | (rw [Bool.eq_iff_iff]; done) | (rw [Bool.eq_iff_iff]; simp; first | done | omega | (simp_all; done) | (simp_all; omega))), by repeat (first | exact Below.refl _ _ | assumption | refine bset ?_ (by simp) _ | refine bal ?_ _)⟩
  ·
    rw [mayB_78 (.inr rfl)]
    go_enter Tryz.func106, Tryz.ntmps106
    go_wp2
    all_goals go_ret
    all_goals exact ⟨bret (by first | (rw [Bool.eq_iff_iff]; done) | (rw [Bool.eq_iff_iff]; simp; first | done | omega | (simp_all; done) | (simp_all; omega))), by repeat (first | exact Below.refl _ _ | assumption | refine bset ?_ (by simp) _ | refine bal ?_ _)⟩
end Go.Proofs.YtannhpadoooedaaGreatDoor

/- The reference's programs: Check, Right. -/
namespace Go.Proofs.YtannhpadoooedaaGreatDoor
open Go.ChangeShapes Go.WideShapes Go.ChangeAt Go.RowKit
set_option linter.unusedVariables false
set_option linter.unusedSimpArgs false
/-- what the reference's Check answers; its Right -/
def RCheckP (ins regs : Int) (code : List Ins) (outs : List Int) (w : World) (e : Ending) (w' : World) : Prop := ∃ (r : Int) (b : Bool), e = .returned (.tuple #[.int .i64 r, .bool b]) ∧ (b = false ↔ ProgOk ins regs code outs) ∧ Below w.heap.size w w'
def RightP (ins regs : Int) (code : List Ins) (outs : List Int) (w : World) (e : Ending) (w' : World) : Prop := ∃ b : Bool, e = .returned (.bool b) ∧ (b = true ↔ ProgOk ins regs code outs) ∧ Below w.heap.size w w'
theorem rck_no {ins regs r : Int} {code : List Ins} {outs : List Int} {w w' : World} (h : ¬ ProgOk ins regs code outs) (hb : Below w.heap.size w w') : RCheckP ins regs code outs w (.returned (.tuple #[.int .i64 r, .bool true])) w' := ⟨_, _, rfl, ⟨(fun k => by cases k), fun k => absurd k h⟩, hb⟩
theorem rck_yes {ins regs r : Int} {code : List Ins} {outs : List Int} {w w' : World} (h : ProgOk ins regs code outs) (hb : Below w.heap.size w w') : RCheckP ins regs code outs w (.returned (.tuple #[.int .i64 r, .bool false])) w' := ⟨_, _, rfl, ⟨fun _ => h, fun _ => rfl⟩, hb⟩
theorem rri_no {ins regs : Int} {code : List Ins} {outs : List Int} {w w' : World} (h : ¬ ProgOk ins regs code outs) (hb : Below w.heap.size w w') : RightP ins regs code outs w (.returned (.bool false)) w' := ⟨_, rfl, ⟨(fun k => by cases k), fun k => absurd k h⟩, hb⟩
theorem rri_yes {ins regs : Int} {code : List Ins} {outs : List Int} {w w' : World} (h : ProgOk ins regs code outs) (hb : Below w.heap.size w w') : RightP ins regs code outs w (.returned (.bool true)) w' := ⟨_, rfl, ⟨fun _ => h, fun _ => rfl⟩, hb⟩
set_option maxRecDepth 100000 in
set_option maxHeartbeats 8000000 in
theorem rcheck_c (ins regs : Int) (ca oa : Option Addr) (cc oc : Nat) (code : List Ins) (outs : List Int) (w : World) (hc : InsV w ca cc code) (ho : IntsV w oa oc outs) :
    Calls Tryz.prog 61 #[.agg #[.int .i64 ins, .int .i64 regs, .slice ca code.length cc, .slice oa outs.length oc]] w (RCheckP ins regs code outs w) := by
  have hB := Below.refl w.heap.size w
  by_cases h1 : ins < 1
  · have HM := Lib.hid (show ¬ ProgOk ins regs code outs from fun k => by have := k.i1; omega)
    go_enter Tryz.func61, Tryz.ntmps61
    go_wp2
    go_ret2
    refine rck_no HM.out ?_
    repeat (first | exact Below.refl _ _ | exact hB | refine Below.drew ?_ | refine below_drewN ?_ _ | refine bset ?_ (by simp <;> omega) _ | refine bal ?_ _)
  by_cases h2 : regs < ins
  · have HM := Lib.hid (show ¬ ProgOk ins regs code outs from fun k => by have := k.i2; omega)
    go_enter Tryz.func61, Tryz.ntmps61
    go_wp2
    go_ret2
    refine rck_no HM.out ?_
    repeat (first | exact Below.refl _ _ | exact hB | refine Below.drew ?_ | refine below_drewN ?_ _ | refine bset ?_ (by simp <;> omega) _ | refine bal ?_ _)
  by_cases h3 : 128 < regs
  · have HM := Lib.hid (show ¬ ProgOk ins regs code outs from fun k => by have := k.r1; omega)
    go_enter Tryz.func61, Tryz.ntmps61
    go_wp2
    go_ret2
    refine rck_no HM.out ?_
    repeat (first | exact Below.refl _ _ | exact hB | refine Below.drew ?_ | refine below_drewN ?_ _ | refine bset ?_ (by simp <;> omega) _ | refine bal ?_ _)
  by_cases h4 : (16384 : Int) < (code.length : Int)
  · have HM := Lib.hid (show ¬ ProgOk ins regs code outs from fun k => by have := k.c1; omega)
    go_enter Tryz.func61, Tryz.ntmps61
    go_wp2
    go_ret2
    refine rck_no HM.out ?_
    repeat (first | exact Below.refl _ _ | exact hB | refine Below.drew ?_ | refine below_drewN ?_ _ | refine bset ?_ (by simp <;> omega) _ | refine bal ?_ _)
  by_cases h5 : (outs.length : Int) < 1
  · have HM := Lib.hid (show ¬ ProgOk ins regs code outs from fun k => by have := k.o1; omega)
    go_enter Tryz.func61, Tryz.ntmps61
    go_wp2
    go_ret2
    refine rck_no HM.out ?_
    repeat (first | exact Below.refl _ _ | exact hB | refine Below.drew ?_ | refine below_drewN ?_ _ | refine bset ?_ (by simp <;> omega) _ | refine bal ?_ _)
  by_cases h6 : (128 : Int) < (outs.length : Int)
  · have HM := Lib.hid (show ¬ ProgOk ins regs code outs from fun k => by have := k.o2; omega)
    go_enter Tryz.func61, Tryz.ntmps61
    go_wp2
    go_ret2
    refine rck_no HM.out ?_
    repeat (first | exact Below.refl _ _ | exact hB | refine Below.drew ?_ | refine below_drewN ?_ _ | refine bset ?_ (by simp <;> omega) _ | refine bal ?_ _)
  have HH := Lib.hid (And.intro (show 1 ≤ ins ∧ ins ≤ regs ∧ regs ≤ 128 by omega) (show code.length ≤ 16384 ∧ 1 ≤ outs.length ∧ outs.length ≤ 128 by omega))
  go_enter Tryz.func61, Tryz.ntmps61
  go_wp2
  refine wp_name fun w0 hW0 => ?_
  have p0 : w0.cell? ⟨w.heap.size, 0, none⟩ = some (.int .i64 ins) := by rw [hW0]; exact (by first | assumption | exact cell_new (by with_reducible first | rfl | (simp; done) | (simp; omega)) rfl | (repeat (first | assumption | exact cell_new (by with_reducible first | rfl | (simp; done) | (simp; omega)) rfl | refine cell_alloc ?_ _ | refine cell_drew ?_ | refine cell_drewN ?_ _ | refine cell_far ?_ (by simp) _ | (refine cell_far ?_ (by simp <;> omega) _))) | simp [go_sem, *])
  have zp0 := cell_lt p0
  have p1 : w0.cell? ⟨w.heap.size, 1, none⟩ = some (.int .i64 regs) := by rw [hW0]; exact (by first | assumption | exact cell_new (by with_reducible first | rfl | (simp; done) | (simp; omega)) rfl | (repeat (first | assumption | exact cell_new (by with_reducible first | rfl | (simp; done) | (simp; omega)) rfl | refine cell_alloc ?_ _ | refine cell_drew ?_ | refine cell_drewN ?_ _ | refine cell_far ?_ (by simp) _ | (refine cell_far ?_ (by simp <;> omega) _))) | simp [go_sem, *])
  have p2 : w0.cell? ⟨w.heap.size, 2, none⟩ = some (.slice ca code.length cc) := by rw [hW0]; exact (by first | assumption | exact cell_new (by with_reducible first | rfl | (simp; done) | (simp; omega)) rfl | (repeat (first | assumption | exact cell_new (by with_reducible first | rfl | (simp; done) | (simp; omega)) rfl | refine cell_alloc ?_ _ | refine cell_drew ?_ | refine cell_drewN ?_ _ | refine cell_far ?_ (by simp) _ | (refine cell_far ?_ (by simp <;> omega) _))) | simp [go_sem, *])
  have p3 : w0.cell? ⟨w.heap.size, 3, none⟩ = some (.slice oa outs.length oc) := by rw [hW0]; exact (by first | assumption | exact cell_new (by with_reducible first | rfl | (simp; done) | (simp; omega)) rfl | (repeat (first | assumption | exact cell_new (by with_reducible first | rfl | (simp; done) | (simp; omega)) rfl | refine cell_alloc ?_ _ | refine cell_drew ?_ | refine cell_drewN ?_ _ | refine cell_far ?_ (by simp) _ | (refine cell_far ?_ (by simp <;> omega) _))) | simp [go_sem, *])
  have hB : Below w.heap.size w w0 := by rw [hW0]; repeat (first | exact Below.refl _ _ | exact hB | refine Below.drew ?_ | refine below_drewN ?_ _ | refine bset ?_ (by simp <;> omega) _ | refine bal ?_ _)
  have hz : w.heap.size ≤ w0.heap.size := hB.size
  clear hW0
  clear h1 h2 h3 h4 h5 h6
  have HF := Lib.hid (show ∀ W, Below w0.heap.size w0 W → W.cell? ⟨w.heap.size, 1, none⟩ = some (.int .i64 regs) ∧ W.cell? ⟨w.heap.size, 2, none⟩ = some (.slice ca code.length cc) ∧ W.cell? ⟨w.heap.size, 3, none⟩ = some (.slice oa outs.length oc) from fun W h => ⟨bkeep h p1, bkeep h p2, bkeep h p3⟩)
  clear p0 p1 p2 p3
  go_loopw [4] (fun x wr => ∃ k : Nat, k ≤ outs.length ∧ x = .int .i64 k ∧ Below w0.heap.size w0 wr ∧ Hid (∀ j, j < k → 0 ≤ outs.getD j 0 ∧ outs.getD j 0 < regs)) (fun x _ => outs.length - (intOf x).toNat)
  case atStart => exact ⟨0, Nat.zero_le _, rfl, Below.refl _ _, Lib.hid (fun j hj => by omega)⟩
  case round =>
    obtain ⟨k, hk, rfl, hBr, hall⟩ := hrel
    have hk8 : outs.length ≤ 128 := HH.out.2.2.2
    obtain ⟨p1, p2, p3⟩ := HF.out wr hBr
    have zp := cell_lt p1
    have hBB := bthen hB hBr
    by_cases hlt : k < outs.length
    · have hltI : (k : Int) < (outs.length : Int) := by omega
      rcases ho.keep hBB with h0 | ⟨b, off, rfl, hcap, hcell⟩
      · rw [h0] at hlt; simp at hlt
      have q0 := hcell k hlt
      have HK := Lib.hid (show ∀ v, v = outs.getD k 0 → ¬ (0 ≤ v ∧ v < regs) → ¬ ProgOk ins regs code outs from fun v hv h hp => h (by rw [hv]; exact hp.os k hlt))
      have HS := Lib.hid (show ∀ v, v = outs.getD k 0 → (0 ≤ v ∧ v < regs) → ∀ j, j < k + 1 → 0 ≤ outs.getD j 0 ∧ outs.getD j 0 < regs from fun v hv h j hj => by
        by_cases e : j = k
        · subst e; rw [← hv]; exact h
        · exact hall.out j (by omega))
      obtain ⟨r, hr⟩ : ∃ r, r = outs.getD k 0 := ⟨_, rfl⟩
      rw [← hr] at q0
      have HR := Lib.hid hr
      clear hr hcell
      by_cases r1 : r < 0
      · have HM := Lib.hid (HK.out r HR.out (by omega))
        have hq1 : decide (r < 0) = true := by simp; omega
        go_wp2
        go_quiet (fail)
        go_wp2
        go_ret2
        refine rck_no HM.out ?_
        repeat (first | exact Below.refl _ _ | exact hBB | refine Below.drew ?_ | refine below_drewN ?_ _ | refine bset ?_ (by simp <;> omega) _ | refine bal ?_ _)
      by_cases r2 : regs ≤ r
      · have HM := Lib.hid (HK.out r HR.out (by omega))
        have hq1 : decide (r < 0) = false := by simp; omega
        have hq2 : decide (regs ≤ r) = true := by simp; omega
        go_wp2
        go_quiet (fail)
        go_wp2
        go_ret2
        refine rck_no HM.out ?_
        repeat (first | exact Below.refl _ _ | exact hBB | refine Below.drew ?_ | refine below_drewN ?_ _ | refine bset ?_ (by simp <;> omega) _ | refine bal ?_ _)
      have hq1 : decide (r < 0) = false := by simp; omega
      have hq2 : decide (regs ≤ r) = false := by simp; omega
      go_wp2
      go_quiet (fail)
      go_wp2
      exact ⟨⟨k + 1, by omega, by go_num, by repeat (first | exact Below.refl _ _ | exact hBr | refine Below.drew ?_ | refine below_drewN ?_ _ | refine bset ?_ (by simp <;> omega) _ | refine bal ?_ _), Lib.hid (HS.out r HR.out (by omega))⟩, by simp [intOf]; omega⟩
    · obtain rfl : k = outs.length := by omega
      have HO := Lib.hid hall.out
      clear hall hlt hk
      have hBR := hBr
      go_wp2
      clear p1 p2 p3
      go_loopw [5] (fun x wi => ∃ k : Nat, k ≤ code.length ∧ x = .int .i64 k ∧ Below w0.heap.size w0 wi ∧ Hid (∀ j, j < k → mayB (code.getD j default).op (code.getD j default).to (code.getD j default).a (code.getD j default).b (code.getD j default).c regs = true)) (fun x _ => code.length - (intOf x).toNat)
      case atStart => exact ⟨0, Nat.zero_le _, rfl, hBR, Lib.hid (fun j hj => by omega)⟩
      case round =>
        rename World => wi
        obtain ⟨k, hk, rfl, hBi, hall⟩ := hrel
        have hk9 : code.length ≤ 16384 := HH.out.2.1
        have hBB := bthen hB hBi
        obtain ⟨p1, p2, p3⟩ := HF.out wi hBi
        have zp := cell_lt p1
        by_cases hlt : k < code.length
        · have hltI : (k : Int) < (code.length : Int) := by omega
          rcases hc.keep hBB with h0 | ⟨b, off, rfl, hcap, hcell⟩
          · rw [h0] at hlt; simp at hlt
          obtain ⟨q0, q1, q2, q3, q4⟩ := hcell k hlt
          have HK := Lib.hid (show ∀ i : Ins, i = code.getD k default → mayB i.op i.to i.a i.b i.c regs = false → ¬ ProgOk ins regs code outs from fun i hi h hp => by
            have := hp.cs k hlt
            rw [← hi, h] at this; cases this)
          have HS := Lib.hid (show ∀ i : Ins, i = code.getD k default → mayB i.op i.to i.a i.b i.c regs = true → ∀ j, j < k + 1 → mayB (code.getD j default).op (code.getD j default).to (code.getD j default).a (code.getD j default).b (code.getD j default).c regs = true from fun i hi h j hj => by
            by_cases e : j = k
            · subst e; rw [← hi]; exact h
            · exact hall.out j (by omega))
          obtain ⟨i, hi⟩ : ∃ i, i = code.getD k default := ⟨_, rfl⟩
          rw [← hi] at q0 q1 q2 q3 q4
          have HI := Lib.hid hi
          clear hi hcell
          obtain ⟨op, t, ia, ib, ic⟩ := i
          dsimp only at q0 q1 q2 q3 q4
          have hmc := fun W => rmay_c op t ia ib ic regs W
          have hBc := Below.refl wi.heap.size wi
          have HQ := Lib.hid (show ∀ W, Below wi.heap.size wi W → W.cell? ⟨w.heap.size, 1, none⟩ = some (.int .i64 regs) ∧ W.cell? ⟨w.heap.size, 2, none⟩ = some (.slice (some ⟨b, off, none⟩) code.length cc) ∧ W.cell? ⟨b, off + k * 5, none⟩ = some (.int .i64 op) ∧ W.cell? ⟨b, off + k * 5 + 1, none⟩ = some (.int .i64 t) ∧ W.cell? ⟨b, off + k * 5 + 2, none⟩ = some (.int .i64 ia) ∧ W.cell? ⟨b, off + k * 5 + 3, none⟩ = some (.int .i64 ib) ∧ W.cell? ⟨b, off + k * 5 + 4, none⟩ = some (.int .i64 ic) from fun W h => ⟨bkeep h p1, bkeep h p2, bkeep h q0, bkeep h q1, bkeep h q2, bkeep h q3, bkeep h q4⟩)
          obtain ⟨mb, hmb⟩ : ∃ mb, mayB op t ia ib ic regs = mb := ⟨_, rfl⟩
          rw [hmb] at hmc
          have HMB := Lib.hid hmb
          clear hmb
          go_wp2
          go_region_held3 (fun w' => w'.cell? ⟨w.heap.size, 1, none⟩ = some (.int .i64 regs) ∧ w'.cell? ⟨w.heap.size, 2, none⟩ = some (.slice (some ⟨b, off, none⟩) code.length cc) ∧ w'.cell? ⟨b, off + k * 5, none⟩ = some (.int .i64 op) ∧ w'.cell? ⟨b, off + k * 5 + 1, none⟩ = some (.int .i64 t) ∧ w'.cell? ⟨b, off + k * 5 + 2, none⟩ = some (.int .i64 ia) ∧ w'.cell? ⟨b, off + k * 5 + 3, none⟩ = some (.int .i64 ib) ∧ w'.cell? ⟨b, off + k * 5 + 4, none⟩ = some (.int .i64 ic))
            (first | (refine HQ.out _ ?_; (repeat (first | exact Below.refl _ _ | exact hBc | refine Below.drew ?_ | refine below_drewN ?_ _ | refine bset ?_ (by simp <;> omega) _ | refine bal ?_ _)); done) | fail)
            (first
              | (go_at_call 106; refine (hmc _).mono ?_; rintro e w5 ⟨rfl, hb5⟩; have hB5 : Below wi.heap.size wi w5 := bthen (by repeat (first | exact Below.refl _ _ | exact hBc | refine Below.drew ?_ | refine below_drewN ?_ _ | refine bset ?_ (by simp <;> omega) _ | refine bal ?_ _)) hb5; clear hBc; have hBc := hB5)
              | fail)
          cases mb with
          | true =>
            have HSM := Lib.hid (HS.out _ HI.out HMB.out)
            go_wp2
            exact ⟨⟨k + 1, by omega, by go_num, bthen hBi hBc, HSM⟩, by simp [intOf]; omega⟩
          | false =>
            have HM := Lib.hid (HK.out _ HI.out HMB.out)
            have hBz := bthen hBB hBc
            go_wp2
            go_ret2
            refine rck_no HM.out ?_
            repeat (first | exact Below.refl _ _ | exact hBz | refine Below.drew ?_ | refine below_drewN ?_ _ | refine bset ?_ (by simp <;> omega) _ | refine bal ?_ _)
        · obtain rfl : k = code.length := by omega
          have HM := Lib.hid (show ProgOk ins regs code outs from ⟨HH.out.1.1, HH.out.1.2.1, HH.out.1.2.2, HH.out.2.1, HH.out.2.2.1, HH.out.2.2.2, HO.out, hall.out⟩)
          go_wp2
          go_ret2
          exact rck_yes HM.out hBB
/-- may a program be? -/
theorem rright_c (ins regs : Int) (ca oa : Option Addr) (cc oc : Nat) (code : List Ins) (outs : List Int) (w : World) (hc : InsV w ca cc code) (ho : IntsV w oa oc outs) :
    Calls Tryz.prog 15 #[.agg #[.int .i64 ins, .int .i64 regs, .slice ca code.length cc, .slice oa outs.length oc]] w (RightP ins regs code outs w) := by
  have kc := fun W (h : Below w.heap.size w W) => rcheck_c ins regs ca oa cc oc code outs W (hc.keep h) (ho.keep h)
  clear hc ho
  have hB := Below.refl w.heap.size w
  go_enter Tryz.func15, Tryz.ntmps15
  go_wp2_with fail
  refine (kc _ (by repeat (first | exact Below.refl _ _ | exact hB | refine Below.drew ?_ | refine below_drewN ?_ _ | refine bset ?_ (by simp <;> omega) _ | refine bal ?_ _))).mono ?_
  rintro e w1 ⟨r, b, rfl, hb, hb1⟩
  have HBI := Lib.hid hb
  have hB1 : Below w.heap.size w w1 := bthen (by repeat (first | exact Below.refl _ _ | exact hB | refine Below.drew ?_ | refine below_drewN ?_ _ | refine bset ?_ (by simp <;> omega) _ | refine bal ?_ _)) hb1
  clear kc hb
  cases b with
  | true =>
    have HM := Lib.hid (show ¬ ProgOk ins regs code outs from fun h => by have := HBI.out.2 h; cases this)
    go_wp2
    go_ret
    exact rri_no HM.out hB1
  | false =>
    have HM := Lib.hid (HBI.out.1 rfl)
    go_wp2
    go_ret
    exact rri_yes HM.out hB1
end Go.Proofs.YtannhpadoooedaaGreatDoor

/- vm's laws: a program and rows that came in; what Run's and New's results say. -/
namespace Go.Proofs.YtannhpadoooedaaGreatDoor
open Num
open Go.ChangeShapes Go.WideShapes Go.ChangeAt Go.RowKit
set_option linter.unusedVariables false
set_option linter.unusedSimpArgs false
/-- a program that came in -/
structure ProgI (w : World) (ca oa : Option Addr) (cc oc : Nat) (code : List Ins) (outs : List Int) : Prop where
  c : InsV w ca cc code
  o : IntsV w oa oc outs
  cn : ca = none → code = []
  on : oa = none → outs = []
  cl : code.length ≤ 1048576
  ol : outs.length ≤ 1048576
/-- a grid that came in, of a size that the form lets by -/
structure GridS (w : World) (v : Value) (g : Grid) : Prop where
  i : GridI w v g
  s : sumG g ≤ 1048576
  l : g.length ≤ 1048576
theorem GridI.bd {w : World} {v : Value} {g : Grid} (h : GridI w v g) : BdG 64 g := by
  obtain ⟨a, c, _, h2⟩ := h
  refine bdG_i64 fun k hk j hj => ?_
  obtain ⟨b, off, u, _, _, hr⟩ := h2 k hk
  obtain ⟨a', c', _, h3⟩ := hr
  obtain ⟨_, _, _, _, h4⟩ := h3 j hj
  exact h4
theorem outsG_len {m : Nat} {h : Grid} (hr : Rect m h) {outs : List Int} (ho : ∀ k, k < outs.length → 0 ≤ outs.getD k 0 ∧ outs.getD k 0 < h.length) : ∀ j (hj : j < (outsG outs h).length), (outsG outs h)[j].length = m := by
  intro j hj
  have hj2 : j < outs.length := by simpa [outsG] using hj
  obtain ⟨h1, h2⟩ := ho j hj2
  have h3 := hr (outs.getD j 0).toNat (by omega)
  have e : outs.getD j 0 = outs[j] := by simp [hj2]
  rw [e] at h3
  simpa [outsG] using h3
/-- what Run's results say -/
def RunRes (ins regs : Int) (code : List Ins) (outs : List Int) (g : Grid) (base : Nat) (w' : World) (ov : Value) (n : Nat) (s : Int) : Prop :=
  (¬ ProgOk ins regs code outs ∧ ov = .slice none 0 0 ∧ n = 0 ∧ s = 80) ∨
  (ProgOk ins regs code outs ∧ ¬ FitsG ins g ∧ ov = .slice none 0 0 ∧ n = 0 ∧ s = 5) ∨
  (ProgOk ins regs code outs ∧ FitsG ins g ∧ n < code.length ∧ (∃ h, after code (startG g regs.toNat (g.getD 0 []).length) n = some h) ∧ after code (startG g regs.toNat (g.getD 0 []).length) (n + 1) = none ∧ ov = .slice none 0 0 ∧ s = 20) ∨
  (ProgOk ins regs code outs ∧ FitsG ins g ∧ n = code.length ∧ s = 0 ∧ ∃ h, after code (startG g regs.toNat (g.getD 0 []).length) code.length = some h ∧ IsL 29 (RowW base) base w' ov (outsG outs h))
theorem RunRes.keep {ins regs : Int} {code : List Ins} {outs : List Int} {g : Grid} {base : Nat} {w w' : World} {ov : Value} {n : Nat} {s : Int} (h : RunRes ins regs code outs g base w ov n s) (hb : Below w.heap.size w w') : RunRes ins regs code outs g base w' ov n s := by
  rcases h with h | h | h | ⟨h1, h2, h3, h4, h, h5, h6⟩
  · exact .inl h
  · exact .inr (.inl h)
  · exact .inr (.inr (.inl h))
  · exact .inr (.inr (.inr ⟨h1, h2, h3, h4, h, h5, h6.keep (prs_rowO lims_int _ _) hb⟩))
/-- what New's results say -/
def NewRes (ins regs : Int) (code : List Ins) (outs : List Int) (g : Grid) (base : Nat) (w' : World) (pv : Option Addr) (s : Int) : Prop :=
  (¬ ProgOk ins regs code outs ∧ pv = none ∧ s = 80) ∨
  (ProgOk ins regs code outs ∧ ¬ FitsG ins g ∧ pv = none ∧ s = 5) ∨
  (ProgOk ins regs code outs ∧ FitsG ins g ∧ s = 0 ∧ ∃ b rb rc, pv = some ⟨b, 0, none⟩ ∧ Mach base w' b rb rc ins regs code outs (startG g regs.toNat (g.getD 0 []).length) 0)
end Go.Proofs.YtannhpadoooedaaGreatDoor

