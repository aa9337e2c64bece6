/- Texts of this seat, laid together: RwC, RwD, RwE. Each opens with its own remark, which says what it proves, and under which conditions. -/
import Derived.Test.YtannhpadoooedaaDoorH05
import Derived.Test.YtannhpadoooedaaDoorG05
import Derived.Deep.RegionLaw
import Derived.Test.YtannhpadoooedaaDoorH02
set_option linter.unusedVariables false
set_option linter.unusedSimpArgs false
/- row: Scale. -/
namespace Go.Proofs.YtannhpadoooedaaDoor
open Num
open Go.ChangeShapes Go.WideShapes Go.ChangeAt Go.RowKit
set_option linter.unusedVariables false
set_option linter.unusedSimpArgs false
attribute [local go_sem ↓] Go.wp_at_zero Go.wp_at_succ
set_option maxRecDepth 100000 in
set_option maxHeartbeats 2000000 in
theorem rowScale_c (v vc : Value) (l : List Int) (c : Int) (k m : Nat) (w : World) (hv : PRow 0 w v l) (hc : IsInt w vc c) (hl : l.length ≤ 1099511627775) (hb : ∀ j, Bd k (l.getD j 0)) (bc : Bd m c) (hk : k ≤ 17179869184) (hm : m ≤ 17179869184) :
    Calls Tryd.prog 96 #[v, vc] w fun e w' => (∃ u, e = .returned u ∧ RowO IsInt 34 w.heap.size w' u (l.map fun x => x * c)) ∧ Below w.heap.size w w' := by
  have ec := fun W (h : Below w.heap.size w W) => each_c v l 86 #[vc] #[] (fun j => c * l.getD j 0) (fun _ W' => IsInt W' vc c) (fun _ => False) W (hv.keep lims_int h) hl (ens Tryd.func86 (by kernel_rfl) rfl) (hc.keep h) (fun _ _ _ hi hkp _ => hi.lim (hkp.lim (by decide))) (fun _ h => h.elim) (fun j W u hj hi hu => (mul_c vc u c _ m k W hi hu bc (hb j) hm hk).mono fun e w' ⟨h1, h2⟩ => ⟨h1, hi.keep h2, Kp.of_below _ h2, Out.of_below _ h2⟩)
  obtain ⟨va, vcp, rfl, -⟩ := hv
  obtain ⟨n1, a1, c1, l1, rfl, -⟩ := hc
  unfold iv at *
  have hB := Below.refl w.heap.size w
  go_enter Tryd.func96, Tryd.ntmps96
  go_wp2_with fail
  refine (ec _ (by repeat (first | exact Below.refl _ _ | exact hB | refine Below.drew ?_ | refine below_drewN ?_ _ | refine bset ?_ (by simp <;> omega) _ | refine bal ?_ _))).mono ?_
  rintro e w1 ⟨⟨u, rfl, hu⟩, -, hO⟩
  have hB1 : Below w.heap.size w w1 := bthen (by repeat (first | exact Below.refl _ _ | exact hB | refine Below.drew ?_ | refine below_drewN ?_ _ | refine bset ?_ (by simp <;> omega) _ | refine bal ?_ _)) (out_none hO)
  have HU := Lib.hid (show RowO IsInt 34 w.heap.size w1 u (l.map fun x => x * c) from (hu.rowO (l := l.map fun x => x * c) (by simp) (fun k hk => by rw [map_getD (fun x => x * c) hk, Int.mul_comm])).rebase (by simp))
  obtain ⟨ua, uc, rfl⟩ := hu.ex
  clear ec hu hO
  go_wp2
  go_ret
  exact ⟨⟨_, rfl, HU.out⟩, hB1⟩
end Go.Proofs.YtannhpadoooedaaDoor
/- row: both, Add, Sub. -/
namespace Go.Proofs.YtannhpadoooedaaDoor
open Num
open Go.ChangeShapes Go.WideShapes Go.ChangeAt Go.RowKit
set_option linter.unusedVariables false
set_option linter.unusedSimpArgs false
attribute [local go_sem ↓] Go.wp_at_zero Go.wp_at_succ
theorem typ_fresh {w : World} {c : Array Value} {t : TypeId} {q : Nat} (h : q = w.heap.size) : typOf (w.alloc (.cells c t)) q = some t := by
  subst h; unfold typOf; rw [(MapKept.heap_alloc w _).1]
set_option maxRecDepth 100000 in
set_option maxHeartbeats 4000000 in
theorem bothF_c (u vb : Value) (lb : List Int) (x z : Int) (F : Nat) (bnd caps : Array Value) (j kb fb bb : Nat) (w : World) (hx : IsInt w u x) (hrow : PRow 0 w vb lb) (hj : j < lb.length) (hl : lb.length ≤ 1099511627775)
    (c0 : w.cell? ⟨kb, 0, none⟩ = some (.int .i64 ((j : Int) - 1))) (c0f : w.frozen? ⟨kb, 0, none⟩ = false) (c1 : w.cell? ⟨fb, 0, none⟩ = some (.func (.func F) bnd caps)) (c2 : w.cell? ⟨bb, 0, none⟩ = some vb) (hT : typOf w kb = some 3) (hkf : kb ≠ fb) (hkb : kb ≠ bb)
    (eF : Enters Tryd.prog F) (hF : ∀ W u1 u2, Out (fun k => k = kb) w W → IsInt W u1 x → IsInt W u2 (lb.getD j 0) → Calls Tryd.prog F (bnd ++ #[u1, u2] ++ caps) W fun e w' => (∃ v, e = .returned v ∧ IsInt w' v z) ∧ Below W.heap.size W w') :
    Calls Tryd.prog 122 #[u, .pointer (some ⟨kb, 0, none⟩), .pointer (some ⟨fb, 0, none⟩), .pointer (some ⟨bb, 0, none⟩)] w fun e w' => (∃ v, e = .returned v ∧ IsInt w' v z) ∧ w'.cell? ⟨kb, 0, none⟩ = some (.int .i64 (j : Int)) ∧ (w'.frozen? ⟨kb, 0, none⟩ = false ∧ typOf w' kb = some 3) ∧ Out (fun k => k = kb) w w' := by
  have HF := Lib.hid hF
  have HX := Lib.hid hx
  obtain ⟨a', c', rfl, -, vr⟩ := hrow.view
  obtain ⟨b, off, n2, a2, l2, c2', rfl, d0, d1, hi⟩ := vr j hj
  have HY := Lib.hid hi
  have zk := cell_lt c0
  have hbk : b ≠ kb := fun e => by
    obtain ⟨a1, c1', he, -, -, h4⟩ := hrow
    obtain ⟨rfl, -, -⟩ := Value.slice.inj he
    rcases h4 with h4 | ⟨b', off', h1, -, h3, -⟩
    · rw [h4] at hj; simp at hj
    · cases h1; subst e; rw [hT] at h3; exact absurd (Option.some.inj h3) (by decide)
  obtain ⟨n1, a1, c1', l1, rfl, -⟩ := hx
  unfold iv at *
  unfold Enters at eF
  have hjI : (j : Int) < (lb.length : Int) := by omega
  have hkf' := Ne.symm hkf
  have hkb' := Ne.symm hkb
  clear hF vr hi
  have HZ := Lib.hid (And.intro hrow hT)
  clear hrow hT
  have hB := Below.refl w.heap.size w
  go_enter Tryd.func122, Tryd.ntmps122
  go_wp2
  refine wp_name fun w0 hW0 => ?_
  have hO : Out (fun k => k = kb) w w0 := by rw [hW0]; repeat (first | exact Out.refl _ _ | refine Out.drew ?_ | refine Out.set ?_ (fun _ => show kb = kb from rfl) _ | refine Out.alloc ?_ _)
  have x0 : w0.cell? ⟨w.heap.size, 0, none⟩ = some (.bool n1) := by rw [hW0]; simp [go_sem, *]
  have x1 : w0.cell? ⟨w.heap.size, 1, none⟩ = some (.slice a1 l1.length c1') := by rw [hW0]; simp [go_sem, *]
  have r0 : w0.cell? ⟨w.heap.size + 1, 0, none⟩ = some (.bool false) := by rw [hW0]; simp [go_sem, *]
  have r1 : w0.cell? ⟨w.heap.size + 1, 1, none⟩ = some (.slice none 0 0) := by rw [hW0]; simp [go_sem, *]
  have r0f : w0.frozen? ⟨w.heap.size + 1, 0, none⟩ = false := by rw [hW0]; simp [go_sem, *]
  have r1f : w0.frozen? ⟨w.heap.size + 1, 1, none⟩ = false := by rw [hW0]; simp [go_sem, *]
  have k0 : w0.cell? ⟨kb, 0, none⟩ = some (.int .i64 (j : Int)) := by rw [hW0]; simp [go_sem, *]
  have k0f : w0.frozen? ⟨kb, 0, none⟩ = false := by rw [hW0]; simp [go_sem, *]
  have ht0 : Hid (typOf w0 kb = some 3) := Lib.hid (by rw [hW0]; repeat (first | exact HZ.out.2 | (with_reducible rw [typ_set]) | (refine typ_keep ?_ (bal (Below.refl _ _) _))))
  have zfb := cell_lt c1
  have zbb := cell_lt c2
  have zbl := cell_lt d0
  have q1 := okeep hO c1 hkf'
  have q2 := okeep hO c2 hkb'
  have e0 := okeep hO d0 hbk
  have e1 := okeep hO d1 hbk
  clear hW0 c0 c0f c1 c2 d0 d1
  have hs := hO.size
  have zr := cell_lt r0
  have zx := cell_lt x0
  have ze := cell_lt e0
  have zq1 := cell_lt q1
  have zq2 := cell_lt q2
  have zk0 := cell_lt k0
  have hLim : Lim w w0 := (Kp.out (S := (· ≠ 3)) hO (fun q t hq ht k => by subst hq; rw [HZ.out.2] at ht; exact k (Option.some.inj ht).symm)).lim (by decide)
  have fc := fun W (h : Below w0.heap.size w0 W) => HF.out W (.agg #[.bool n1, .slice a1 l1.length c1']) (.agg #[.bool n2, .slice a2 l2 c2']) (hO.below h) ((HX.out.lim hLim).keep h) ((HY.out.lim hLim).keep h)
  simp only [Array.append_assoc] at fc
  have hBw := Below.refl w0.heap.size w0
  clear hLim
  have HS := Lib.hid (show ∀ W, Out (fun k => k = w.heap.size + 1) w0 W → W.cell? ⟨fb, 0, none⟩ = some (.func (.func F) bnd caps) ∧ W.cell? ⟨w.heap.size, 0, none⟩ = some (.bool n1) ∧ W.cell? ⟨w.heap.size, 1, none⟩ = some (.slice a1 l1.length c1') ∧ W.cell? ⟨bb, 0, none⟩ = some (.slice (some ⟨b, off, none⟩) lb.length c') ∧ W.cell? ⟨kb, 0, none⟩ = some (.int .i64 (j : Int)) ∧ W.cell? ⟨b, off + j * 2, none⟩ = some (.bool n2) ∧ W.cell? ⟨b, off + j * 2 + 1, none⟩ = some (.slice a2 l2 c2') from fun W h => ⟨okeep h q1 (by omega), okeep h x0 (by omega), okeep h x1 (by omega), okeep h q2 (by omega), okeep h k0 (by omega), okeep h e0 (by omega), okeep h e1 (by omega)⟩)
  have hOw := Out.refl (fun k => k = w.heap.size + 1) w0
  go_region_held3 (fun w' => w'.cell? ⟨fb, 0, none⟩ = some (.func (.func F) bnd caps) ∧ w'.cell? ⟨w.heap.size, 0, none⟩ = some (.bool n1) ∧ w'.cell? ⟨w.heap.size, 1, none⟩ = some (.slice a1 l1.length c1') ∧ w'.cell? ⟨bb, 0, none⟩ = some (.slice (some ⟨b, off, none⟩) lb.length c') ∧ w'.cell? ⟨kb, 0, none⟩ = some (.int .i64 (j : Int)) ∧ w'.cell? ⟨b, off + j * 2, none⟩ = some (.bool n2) ∧ w'.cell? ⟨b, off + j * 2 + 1, none⟩ = some (.slice a2 l2 c2'))
    (first | (refine HS.out _ ?_; (repeat (first | exact hOw | refine Out.drew ?_ | refine Out.drewN ?_ _ | refine Out.set ?_ (fun _ => show w.heap.size + 1 = w.heap.size + 1 from rfl) _ | refine Out.alloc ?_ _)); done) | fail)
    (first
      | (go_at_fn F; refine (fc _ ?_).mono ?_; (repeat (first | exact Below.refl _ _ | exact hBw | refine Below.drew ?_ | refine below_drewN ?_ _ | refine bset ?_ (by simp <;> omega) _ | refine bal ?_ _)); rintro e w5 ⟨⟨v5, rfl, hv5⟩, hb5⟩; have hB5 : Below w0.heap.size w0 w5 := bthen (by repeat (first | exact Below.refl _ _ | exact hBw | refine Below.drew ?_ | refine below_drewN ?_ _ | refine bset ?_ (by simp <;> omega) _ | refine bal ?_ _)) hb5; (have hBd : Out (fun k => k = w.heap.size + 1) w0 w5 := Out.of_below _ hB5; clear hOw; have hOw := hBd; clear hBd); have r05f := bkeepf hB5 r0 r0f; have r15f := bkeepf hB5 r1 r1f; have r05 := bkeep hB5 r0; have r15 := bkeep hB5 r1; have HV := Lib.hid hv5; obtain ⟨n5, a5, c5, l5, rfl, -⟩ := hv5; unfold iv at *)
      | fail)
  all_goals
    have k05 := bkeep hB5 k0
    have k05f := bkeepf hB5 k0 k0f
    have t05 := Lib.hid (typ_keep ht0.out hB5)
    have hO5 := hO.below hB5
    clear fc
    go_wp2
    refine bodyPost_ret (v := .agg #[.bool n5, .slice a5 l5.length c5]) (by simp [results, Tryd.results122, go_sem, *]) rfl ⟨⟨_, rfl, (HV.out).put2 r05 r15 _ _⟩, ?_, ⟨?_, ?_⟩, ?_⟩
    · exact cell_far (cell_far k05 (by simp <;> omega) _) (by simp <;> omega) _
    · rw [World.frozen?_setCell, World.frozen?_setCell]; exact k05f
    · rw [typ_set, typ_set]; exact t05.out
    · exact (hO5.set (fun h => absurd h (by show ¬ (w.heap.size + 1 < w.heap.size); omega)) _).set (fun h => absurd h (by show ¬ (w.heap.size + 1 < w.heap.size); omega)) _
set_option maxRecDepth 100000 in
set_option maxHeartbeats 4000000 in
/-- both, of rows that are as long -/
theorem both_yes (va vb : Value) (la lb lz : List Int) (F : Nat) (bnd caps : Array Value) (w : World) (ha : PRow 0 w va la) (hb : PRow 0 w vb lb) (hl : la.length ≤ 1099511627775) (he : la.length = lb.length) (hz : lz.length = la.length)
    (eF : Enters Tryd.prog F) (hF : ∀ j W u1 u2, j < la.length → Below w.heap.size w W → IsInt W u1 (la.getD j 0) → IsInt W u2 (lb.getD j 0) → Calls Tryd.prog F (bnd ++ #[u1, u2] ++ caps) W fun e w' => (∃ v, e = .returned v ∧ IsInt w' v (lz.getD j 0)) ∧ Below W.heap.size W w') :
    Calls Tryd.prog 99 #[va, vb, .func (.func F) bnd caps] w fun e w' => (∃ u, e = .returned (.tuple #[u, .int .i64 0]) ∧ RowO IsInt 34 w.heap.size w' u lz) ∧ Below w.heap.size w w' := by
  have HF := Lib.hid hF
  have HA := Lib.hid ha
  have HB' := Lib.hid hb
  obtain ⟨aa, ca, rfl, -⟩ := ha
  obtain ⟨ab, cb, rfl, -⟩ := hb
  have hb0 : lb.length ≤ 1099511627775 := by omega
  have HE := Lib.hid (And.intro he hz)
  have hne : (la.length != lb.length) = false := by simp [he]
  have hneI : ((la.length : Int) != (lb.length : Int)) = false := by simp [he]
  have ec := fun W (hB : Below w.heap.size w W) (k0 : W.cell? ⟨w.heap.size + 1 + 1, 0, none⟩ = some (.int .i64 (((0 : Nat) : Int) - 1))) (k0f : W.frozen? ⟨w.heap.size + 1 + 1, 0, none⟩ = false) (f0 : W.cell? ⟨w.heap.size + 1, 0, none⟩ = some (.func (.func F) bnd caps)) (b0 : W.cell? ⟨w.heap.size, 0, none⟩ = some (.slice ab lb.length cb)) (hT : typOf W (w.heap.size + 1 + 1) = some 3) =>
    each_c (.slice aa la.length ca) la 122 #[] #[.pointer (some ⟨w.heap.size + 1 + 1, 0, none⟩), .pointer (some ⟨w.heap.size + 1, 0, none⟩), .pointer (some ⟨w.heap.size, 0, none⟩)] (fun j => lz.getD j 0)
      (fun j W' => Below w.heap.size w W' ∧ W'.cell? ⟨w.heap.size + 1 + 1, 0, none⟩ = some (.int .i64 ((j : Int) - 1)) ∧ W'.frozen? ⟨w.heap.size + 1 + 1, 0, none⟩ = false ∧ W'.cell? ⟨w.heap.size + 1, 0, none⟩ = some (.func (.func F) bnd caps) ∧ W'.cell? ⟨w.heap.size, 0, none⟩ = some (.slice ab lb.length cb) ∧ typOf W' (w.heap.size + 1 + 1) = some 3)
      (fun q => q = w.heap.size + 1 + 1) W (HA.out.keep lims_int hB) hl (ens Tryd.func122 (by kernel_rfl) rfl) ⟨hB, k0, k0f, f0, b0, hT⟩
      (fun j W1 W2 h hk ho => by
        obtain ⟨h1, h2, h3, h4, h5, h6⟩ := h
        have hz := cell_lt k0
        have g : ∀ q, q ≤ w.heap.size + 2 → ¬ (W.heap.size ≤ q) := fun q hq => by omega
        have hs1 := h1.size
        exact ⟨h1.trans (ho.to_below (fun q hq _ => g q (by omega)) h1.size), okeep ho h2 (g _ (by omega)), okeepf ho h2 h3 (g _ (by omega)), okeep ho h4 (g _ (by omega)), okeep ho h5 (g _ (by omega)), by rw [typ_of_block (w := W1) (ho.block _ (cell_lt h2) (g _ (by omega)))]; exact h6⟩)
      (fun q hq => by subst hq; exact hT)
      (fun j W1 u hj h hu => by
        obtain ⟨h1, h2, h3, h4, h5, h6⟩ := h
        refine (bothF_c u (.slice ab lb.length cb) lb (la.getD j 0) (lz.getD j 0) F bnd caps j (w.heap.size + 1 + 1) (w.heap.size + 1) w.heap.size W1 hu (HB'.out.keep lims_int h1) (by have := HE.out.1; omega) hb0 h2 h3 h4 h5 h6 (by omega) (by omega) eF (fun W2 u1 u2 hO k1 k2 => HF.out j W2 u1 u2 hj (h1.trans (hO.to_below (fun q hq _ e => by omega) h1.size)) k1 k2)).mono ?_
        rintro e w' ⟨h7, h8, ⟨h8f, h8t⟩, h9⟩
        have hkp : Kp (· ≠ 3) W1 w' := Kp.out h9 (fun q t hq ht k => by subst hq; rw [h6] at ht; exact k (Option.some.inj ht).symm)
        refine ⟨h7, ⟨h1.trans (h9.to_below (fun q hq _ e => by omega) h1.size), by rw [h8]; congr 2; omega, h8f, okeep h9 h4 (by omega), okeep h9 h5 (by omega), h8t⟩, hkp, h9⟩)
  have EC := Lib.hid ec
  clear ec he hz hF
  have hB := Below.refl w.heap.size w
  go_enter Tryd.func99, Tryd.ntmps99
  go_upto_region 4 with (fail)
  refine wp_name fun w1 hW1 => ?_
  have k0f : w1.frozen? ⟨w.heap.size + 1 + 1, 0, none⟩ = false := by rw [hW1]; simp [go_sem, *]
  have k0 : w1.cell? ⟨w.heap.size + 1 + 1, 0, none⟩ = some (.int .i64 (-1)) := by rw [hW1]; exact (by first | assumption | exact cell_new (by with_reducible first | rfl | (simp; done) | (simp; omega)) rfl | (repeat (first | assumption | exact cell_new (by with_reducible first | rfl | (simp; done) | (simp; omega)) rfl | refine cell_alloc ?_ _ | refine cell_drew ?_ | refine cell_drewN ?_ _ | refine cell_far ?_ (by simp) _ | (refine cell_far ?_ (by simp <;> omega) _))) | simp [go_sem, *])
  have zk0 := cell_lt k0
  have f0 : w1.cell? ⟨w.heap.size + 1, 0, none⟩ = some (.func (.func F) bnd caps) := by rw [hW1]; exact (by first | assumption | exact cell_new (by with_reducible first | rfl | (simp; done) | (simp; omega)) rfl | (repeat (first | assumption | exact cell_new (by with_reducible first | rfl | (simp; done) | (simp; omega)) rfl | refine cell_alloc ?_ _ | refine cell_drew ?_ | refine cell_drewN ?_ _ | refine cell_far ?_ (by simp) _ | (refine cell_far ?_ (by simp <;> omega) _))) | simp [go_sem, *])
  have zf0 := cell_lt f0
  have b0 : w1.cell? ⟨w.heap.size, 0, none⟩ = some (.slice ab lb.length cb) := by rw [hW1]; exact (by first | assumption | exact cell_new (by with_reducible first | rfl | (simp; done) | (simp; omega)) rfl | (repeat (first | assumption | exact cell_new (by with_reducible first | rfl | (simp; done) | (simp; omega)) rfl | refine cell_alloc ?_ _ | refine cell_drew ?_ | refine cell_drewN ?_ _ | refine cell_far ?_ (by simp) _ | (refine cell_far ?_ (by simp <;> omega) _))) | simp [go_sem, *])
  have zb0 := cell_lt b0
  have hB : Below w.heap.size w w1 := by rw [hW1]; repeat (first | exact Below.refl _ _ | exact hB | refine Below.drew ?_ | refine below_drewN ?_ _ | refine bset ?_ (by simp <;> omega) _ | refine bal ?_ _)
  have hT : Hid (typOf w1 (w.heap.size + 1 + 1) = some 3) := Lib.hid (by rw [hW1]; exact typ_fresh (by simp))
  have hz : w.heap.size ≤ w1.heap.size := hB.size
  clear hW1

  have hb11 := Below.refl w1.heap.size w1
  go_wp2_with fail
  refine (EC.out _ (by repeat (first | exact Below.refl _ _ | exact hB | refine Below.drew ?_ | refine below_drewN ?_ _ | refine bset ?_ (by simp <;> omega) _ | refine bal ?_ _)) ?_ ?_ ?_ ?_ ?_).mono ?_
  · simpa using k0
  · exact k0f
  · exact f0
  · exact b0
  · exact hT.out
  rintro e w2 ⟨⟨u, rfl, hu⟩, hp, hO⟩
  have HU := Lib.hid (show RowO IsInt 34 w.heap.size w2 u lz from (hu.rowO HE.out.2 (fun k hk => rfl)).rebase hz)
  have HP := Lib.hid hp.1
  obtain ⟨ua, uc, rfl⟩ := hu.ex
  clear hu hp hO
  go_wp2
  go_ret2
  exact ⟨⟨_, rfl, HU.out⟩, HP.out⟩
set_option maxRecDepth 100000 in
set_option maxHeartbeats 4000000 in
/-- both, of rows that are not -/
theorem both_no (va vb : Value) (la lb : List Int) (F : Nat) (bnd caps : Array Value) (w : World) (ha : PRow 0 w va la) (hb : PRow 0 w vb lb) (hl : la.length ≤ 1099511627775) (hl2 : lb.length ≤ 1099511627775) (he : la.length ≠ lb.length) :
    Calls Tryd.prog 99 #[va, vb, .func (.func F) bnd caps] w fun e w' => e = .returned (.tuple #[.slice none 0 0, .int .i64 5]) ∧ Below w.heap.size w w' := by
  obtain ⟨aa, ca, rfl, -⟩ := ha
  obtain ⟨ab, cb, rfl, -⟩ := hb
  have hneI : ((la.length : Int) != (lb.length : Int)) = true := by simp; omega
  have hne : (la.length != lb.length) = true := by simp; omega
  have hB := Below.refl w.heap.size w
  clear he
  go_enter Tryd.func99, Tryd.ntmps99
  go_wp2
  go_ret2
  exact ⟨rfl, by repeat (first | exact Below.refl _ _ | exact hB | refine Below.drew ?_ | refine below_drewN ?_ _ | refine bset ?_ (by simp <;> omega) _ | refine bal ?_ _)⟩
end Go.Proofs.YtannhpadoooedaaDoor
/- row: Over. -/
namespace Go.Proofs.YtannhpadoooedaaDoor
open Num
open Go.ChangeShapes Go.WideShapes Go.ChangeAt Go.RowKit
set_option linter.unusedVariables false
set_option linter.unusedSimpArgs false
attribute [local go_sem ↓] Go.wp_at_zero Go.wp_at_succ
/-- what Over answers where the divisor is not 0 -/
def OverPost (l : List Int) (c : Int) (w : World) (e : Ending) (w' : World) : Prop :=
  (((∃ j, j < l.length ∧ l.getD j 0 % c ≠ 0) ∧ e = .returned (.tuple #[.slice none 0 0, .int .i64 20])) ∨
   ((∀ j, j < l.length → l.getD j 0 % c = 0) ∧ ∃ u, e = .returned (.tuple #[u, .int .i64 0]) ∧ RowO IsInt 34 w.heap.size w' u (l.map fun x => x / c))) ∧ Below w.heap.size w w'
set_option maxRecDepth 100000 in
set_option maxHeartbeats 8000000 in
theorem rowOver_c (v vc : Value) (l : List Int) (c : Int) (k : Nat) (w : World) (hv : PRow 0 w v l) (hc : IsInt w vc c) (hl : l.length ≤ 1099511627775) (hb : ∀ j, Bd k (l.getD j 0)) (bc : Bd k c) (hk : k ≤ 17179869184) (h0 : c ≠ 0) :
    Calls Tryd.prog 98 #[v, vc] w (OverPost l c w) := by
  have sc := fun W (h : Below w.heap.size w W) => sign_c vc c W (hc.keep h)
  have HV := Lib.hid hv
  have HC := Lib.hid hc
  have HBD := Lib.hid (And.intro hb (And.intro bc h0))
  obtain ⟨sg, hsg, hsgE⟩ : ∃ s : Int, s ≠ 0 ∧ c.sign = s := ⟨_, (fun e => h0 (Int.sign_eq_zero_iff_zero.1 e)), rfl⟩
  rw [hsgE] at sc
  have hsb : (sg == 0) = false := by simpa using hsg
  clear hsgE hb bc h0 hsg
  obtain ⟨va, vcap, rfl, -⟩ := hv
  obtain ⟨n1, a1, cc1, l1, rfl, -⟩ := hc
  unfold iv at *
  have hB := Below.refl w.heap.size w
  go_enter Tryd.func98, Tryd.ntmps98
  go_wp2_with fail
  refine (sc _ (by repeat (first | exact Below.refl _ _ | exact hB | refine Below.drew ?_ | refine below_drewN ?_ _ | refine bset ?_ (by simp <;> omega) _ | refine bal ?_ _))).mono ?_
  rintro e w1 ⟨rfl, hb1⟩
  have c0 : w1.cell? ⟨w.heap.size, 0, none⟩ = some (.bool n1) := bkeep hb1 (by first | assumption | exact cell_new (by with_reducible first | rfl | (simp; done) | (simp; omega)) rfl | (repeat (first | assumption | exact cell_new (by with_reducible first | rfl | (simp; done) | (simp; omega)) rfl | refine cell_alloc ?_ _ | refine cell_drew ?_ | refine cell_drewN ?_ _ | refine cell_far ?_ (by simp) _ | (refine cell_far ?_ (by simp <;> omega) _))) | simp [go_sem, *])
  have zc0 := cell_lt c0
  have c1 : w1.cell? ⟨w.heap.size, 1, none⟩ = some (.slice a1 l1.length cc1) := bkeep hb1 (by first | assumption | exact cell_new (by with_reducible first | rfl | (simp; done) | (simp; omega)) rfl | (repeat (first | assumption | exact cell_new (by with_reducible first | rfl | (simp; done) | (simp; omega)) rfl | refine cell_alloc ?_ _ | refine cell_drew ?_ | refine cell_drewN ?_ _ | refine cell_far ?_ (by simp) _ | (refine cell_far ?_ (by simp <;> omega) _))) | simp [go_sem, *])
  have hB : Below w.heap.size w w1 := bthen (by repeat (first | exact Below.refl _ _ | exact hB | refine Below.drew ?_ | refine below_drewN ?_ _ | refine bset ?_ (by simp <;> omega) _ | refine bal ?_ _)) hb1
  have hz : w.heap.size ≤ w1.heap.size := hB.size
  clear sc
  have hb11 := Below.refl w1.heap.size w1
  go_wp2
  go_loopw [6, 17] (fun v x wr => ∃ j : Nat, j ≤ l.length ∧ x = .int .i64 j ∧ Hid (OwnF IsInt 34 w1 wr v j (fun i => l.getD i 0 / c)) ∧ Hid (∀ i, i < j → l.getD i 0 % c = 0)) (fun _ x _ => l.length - (intOf x).toNat)
  case atStart => exact ⟨0, Nat.zero_le _, rfl, Lib.hid (OwnF.nil _ _ _ (by repeat (first | exact Below.refl _ _ | exact hb11 | refine Below.drew ?_ | refine below_drewN ?_ _ | refine bset ?_ (by simp <;> omega) _ | refine bal ?_ _))), Lib.hid (fun i hi => by omega)⟩
  case round =>
    obtain ⟨j, hj, rfl, hF, hA⟩ := hrel
    have hbr := hF.out.bel
    obtain ⟨fa, fc, hfv⟩ : ∃ a c, _ = Value.slice a j c := by obtain ⟨a, c, h, _⟩ := hF.out.view; exact ⟨a, c, h⟩
    subst hfv
    have c0 := bkeep hbr c0
    have c1 := bkeep hbr c1
    have zcr := cell_lt c0
    have hB := bthen hB hbr
    by_cases hlt : j < l.length
    · have hltI : (j : Int) < (l.length : Int) := by omega
      obtain ⟨a', c', he, -, vr⟩ := (HV.out.keep lims_int hB).view
      obtain ⟨rfl, -, rfl⟩ := Value.slice.inj he
      obtain ⟨b, off, n2, a2, l2, cc2, rfl, d0, d1, hi⟩ := vr j hlt
      have hb2 := HBD.out.1 j
      have HSN := Lib.hid (show ∀ q z, z = l.getD j 0 / c → q < j + 1 → (fun i => if i = j then z else l.getD i 0 / c) q = l.getD q 0 / c from fun q z hz hq => by dsimp only; split; (subst_vars; rfl); rfl)
      have HAN := Lib.hid (show l.getD j 0 % c = 0 → ∀ i, i < j + 1 → l.getD i 0 % c = 0 from fun h i hi => by
        by_cases e : i = j
        · subst e; exact h
        · exact hA.out i (by omega))
      have HNO := Lib.hid (show l.getD j 0 % c ≠ 0 → ∃ j, j < l.length ∧ l.getD j 0 % c ≠ 0 from fun h => ⟨j, hlt, h⟩)
      obtain ⟨x, hx⟩ : ∃ x, l.getD j 0 = x := ⟨_, rfl⟩
      rw [hx] at hi hb2 HSN HAN HNO
      have dc := fun W (h : Below wr.heap.size wr W) => divmod_c (.agg #[.bool n2, .slice a2 l2 cc2]) (.agg #[.bool n1, .slice a1 l1.length cc1]) x c k W (hi.keep h) ((HC.out.keep hB).keep h) hb2 HBD.out.2.1 hk HBD.out.2.2
      obtain ⟨q, hq⟩ : ∃ q, x / c = q := ⟨_, rfl⟩
      obtain ⟨r, hr⟩ : ∃ r, x % c = r := ⟨_, rfl⟩
      rw [hq, hr] at dc
      rw [hq] at HSN
      rw [hr] at HAN HNO
      clear hx he vr hi hb2 hq hr
      have hBw := Below.refl wr.heap.size wr
      go_wp2_with fail
      refine (dc _ (by repeat (first | exact Below.refl _ _ | exact hBw | refine Below.drew ?_ | refine below_drewN ?_ _ | refine bset ?_ (by simp <;> omega) _ | refine bal ?_ _))).mono ?_
      rintro e w2 ⟨⟨u, v, rfl, hu, hv⟩, hb2⟩
      have hb2' : Below wr.heap.size wr w2 := bthen (by repeat (first | exact Below.refl _ _ | exact hBw | refine Below.drew ?_ | refine below_drewN ?_ _ | refine bset ?_ (by simp <;> omega) _ | refine bal ?_ _)) hb2
      have HU := Lib.hid hu
      have sx := fun W (h : Below w2.heap.size w2 W) => sign_c v _ W (hv.keep h)
      obtain ⟨nu, au, cu, lu, rfl, -⟩ := hu
      obtain ⟨nv, av, cv, lv, rfl, -⟩ := hv
      unfold iv at *
      have hBz := Below.refl w2.heap.size w2
      clear dc
      by_cases hr0 : r = 0
      · subst hr0
        have HAN' := Lib.hid (HAN.out rfl)
        rw [Int.sign_zero] at sx
        clear HNO HAN
        go_wp2_with fail
        refine (sx _ (by repeat (first | exact Below.refl _ _ | exact hBz | refine Below.drew ?_ | refine below_drewN ?_ _ | refine bset ?_ (by simp <;> omega) _ | refine bal ?_ _))).mono ?_
        rintro e w3 ⟨rfl, hb3⟩
        have hb3' : Below w2.heap.size w2 w3 := bthen (by repeat (first | exact Below.refl _ _ | exact hBz | refine Below.drew ?_ | refine below_drewN ?_ _ | refine bset ?_ (by simp <;> omega) _ | refine bal ?_ _)) hb3
        have q0 : w3.cell? ⟨w2.heap.size, 0, none⟩ = some (.bool nu) := bkeep hb3 (cell_alloc (cell_new rfl rfl) _)
        have q1 : w3.cell? ⟨w2.heap.size, 1, none⟩ = some (.slice au lu.length cu) := bkeep hb3 (cell_alloc (cell_new rfl rfl) _)
        have zq := cell_lt q0
        have hF3 := Lib.hid (hF.out.below lims_int (bthen hb2' hb3'))
        have HU3 := Lib.hid (HU.out.keep hb3')
        clear sx
        go_wp2_with (at_builtin; refine app_num elInt (by decide) lims_int (by rfl) (by rfl) hF3.out HU3.out (by rfl) (by rfl) (by omega) ?_)
        intro v' w8 hF8 _ _
        have HF8 := Lib.hid (hF8.congr' (fun i hi => HSN.out i _ rfl hi))
        clear hF8
        go_wp2
        exact ⟨⟨j + 1, by omega, by go_num, HF8, HAN'⟩, by simp [intOf]; omega⟩
      · have HNO' := Lib.hid (HNO.out hr0)
        obtain ⟨sv, hsv, hsvE⟩ : ∃ s : Int, s ≠ 0 ∧ r.sign = s := ⟨_, (fun e => hr0 (Int.sign_eq_zero_iff_zero.1 e)), rfl⟩
        rw [hsvE] at sx
        have hsb2 : (sv != 0) = true := by simpa using hsv
        clear hsvE HNO HAN hr0 hsv
        go_wp2_with fail
        refine (sx _ (by repeat (first | exact Below.refl _ _ | exact hBz | refine Below.drew ?_ | refine below_drewN ?_ _ | refine bset ?_ (by simp <;> omega) _ | refine bal ?_ _))).mono ?_
        rintro e w3 ⟨rfl, hb3⟩
        have hb3' : Below w2.heap.size w2 w3 := bthen (by repeat (first | exact Below.refl _ _ | exact hBz | refine Below.drew ?_ | refine below_drewN ?_ _ | refine bset ?_ (by simp <;> omega) _ | refine bal ?_ _)) hb3
        clear sx
        go_wp2
        go_ret2
        exact ⟨.inl ⟨HNO'.out, rfl⟩, bthen hB (bthen hb2' hb3')⟩
    · obtain rfl : j = l.length := by omega
      go_wp2
      go_ret2
      refine ⟨.inr ⟨hA.out, _, rfl, ?_⟩, hB⟩
      refine RowO.rebase (OwnF.rowO (w0 := w1) (l := l.map fun x => x / c) ?_) hz
      rw [List.length_map]
      exact hF.out.congr' (fun k hk => (map_getD (fun x => x / c) hk).symm)
end Go.Proofs.YtannhpadoooedaaDoor
