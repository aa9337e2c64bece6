/- Texts of this seat, laid together: EwA, EwB, RefM. Each opens with its own remark, which says what it proves, and under which conditions. -/
import Derived.Test.YtannhpadoooedaaDoorG27
import Derived.Test.YtannhpadoooedaaDoorG28
import Derived.Test.YtannhpadoooedaaDoorG09
import Derived.Deep.DeepFit
import Derived.Deep.RegionLaw
import Derived.Deep.DrawnRows
import Derived.Test.YtannhpadoooedaaDoorG26
set_option linter.unusedVariables false
set_option linter.unusedSimpArgs false
/- exact's laws: long; numbers that come in as rows of both. -/
namespace Go.Proofs.YtannhpadoooedaaDoor
open Num
open Go.ChangeShapes Go.WideShapes Go.ChangeAt Go.RowKit
set_option linter.unusedVariables false
set_option linter.unusedSimpArgs false
/-- what long finds out where it answers false -/
def ShortE (cn : Nat) (g : Grid) (cl ol : Nat) : Prop := cn + (sumG g + g.length) ≤ 400 ∧ cl ≤ 60 ∧ ol ≤ 128
/-- what long answers -/
def LongE (cn : Nat) (g : Grid) (cl ol : Nat) (w : World) (e : Ending) (w' : World) : Prop := ∃ b, e = .returned (.bool b) ∧ Hid (b = false → ShortE cn g cl ol) ∧ Below w.heap.size w w'
set_option maxRecDepth 100000 in
set_option maxHeartbeats 8000000 in
theorem long10_c (ins regs : Int) (ca oa : Option Addr) (cc ol oc : Nat) (code : List Ins) (v vc : Value) (g : Grid) (cn : Nat) (w : World) (hc : InsV w ca cc code) (hg : GridI w v g) (hl : ∀ k, k < g.length → (g.getD k []).length ≤ 1152921504606846976) (hvc : ∃ a c, vc = .slice a cn c) (hcn : cn ≤ 1152921504606846976) :
    Calls Tryd.prog 25 #[.agg #[.int .i64 ins, .int .i64 regs, .slice ca code.length cc, .slice oa ol oc], v, vc] w (LongE cn g code.length ol w) := by
  obtain ⟨ga, gc, rfl, hv⟩ := hg
  obtain ⟨va, vcp, rfl⟩ := hvc
  have HV := Lib.hid hv
  have HL := Lib.hid hl
  have HC := Lib.hid hc
  clear hv hl hc
  have hB := Below.refl w.heap.size w
  go_enter Tryd.func25, Tryd.ntmps25
  go_wp2
  refine wp_name fun w0 hW0 => ?_
  have p2 : w0.cell? ⟨w.heap.size, 2, none⟩ = some (.slice ca code.length cc) := by rw [hW0]; exact (by first | assumption | exact cell_new (by with_reducible first | rfl | (simp; done) | (simp; omega)) rfl | (repeat (first | assumption | exact cell_new (by with_reducible first | rfl | (simp; done) | (simp; omega)) rfl | refine cell_alloc ?_ _ | refine cell_drew ?_ | refine cell_drewN ?_ _ | refine cell_far ?_ (by simp) _ | (refine cell_far ?_ (by simp <;> omega) _))) | simp [go_sem, *])
  have zp2 := cell_lt p2
  have p3 : w0.cell? ⟨w.heap.size, 3, none⟩ = some (.slice oa ol oc) := by rw [hW0]; exact (by first | assumption | exact cell_new (by with_reducible first | rfl | (simp; done) | (simp; omega)) rfl | (repeat (first | assumption | exact cell_new (by with_reducible first | rfl | (simp; done) | (simp; omega)) rfl | refine cell_alloc ?_ _ | refine cell_drew ?_ | refine cell_drewN ?_ _ | refine cell_far ?_ (by simp) _ | (refine cell_far ?_ (by simp <;> omega) _))) | simp [go_sem, *])
  have hB : Below w.heap.size w w0 := by rw [hW0]; repeat (first | exact Below.refl _ _ | exact hB | refine Below.drew ?_ | refine below_drewN ?_ _ | refine bset ?_ (by simp <;> omega) _ | refine bal ?_ _)
  have hz : w.heap.size ≤ w0.heap.size := hB.size
  clear hW0
  have hB0 := hB
  go_loop [7, 8] (fun n x => ∃ k m : Nat, k ≤ g.length ∧ x = .int .i64 k ∧ n = .int .i64 m ∧ m ≤ 1152921504606846976 ∧ Hid (m = cn + (sumG (g.take k) + k)) ∧ Hid (0 < k → m ≤ 400)) (fun _ x => g.length - (intOf x).toNat)
  case atStart => exact ⟨0, cn, Nat.zero_le _, rfl, rfl, hcn, Lib.hid (by simp [sumG]), Lib.hid fun h => by omega⟩
  case round =>
    obtain ⟨k, m, hk, rfl, rfl, hm, HM, H4⟩ := hrel
    have hk2 : k ≤ 1152921504606846976 := by have := HM.out; omega
    by_cases hlt : k < g.length
    · have hltI : (k : Int) < (g.length : Int) := by omega
      obtain ⟨gb, go, u, rfl, hu, hrow⟩ := HV.out k hlt
      obtain ⟨ra, rc, rfl, hr⟩ := hrow
      have hu2 := bkeep hB hu
      have hll := HL.out k hlt
      have hs := sum_take hlt
      obtain ⟨l, hl⟩ : ∃ l, (g.getD k []).length = l := ⟨_, rfl⟩
      rw [hl] at hs hu2 hll
      have HS := Lib.hid (show m + (1 + l) = cn + (sumG (g.take (k + 1)) + (k + 1)) by have := HM.out; omega)
      clear hu hr hl hs
      by_cases h4 : 400 < m + (1 + l)
      · have h4I : (400 : Int) < (m : Int) + (1 + (l : Int)) := by omega
        go_wp2
        go_ret
        exact ⟨_, rfl, Lib.hid (fun h => by cases h), hB⟩
      · have h4I : ¬ (400 : Int) < (m : Int) + (1 + (l : Int)) := by omega
        have H5 := Lib.hid (show 0 < k + 1 → m + (1 + l) ≤ 400 from fun _ => by omega)
        go_wp2
        go_round
        case rel => exact ⟨k + 1, m + (1 + l), by omega, by go_num, by go_num, by omega, HS, H5⟩
        case measure => simp [intOf]; omega
    · obtain rfl : k = g.length := by omega
      rw [List.take_length] at HM
      by_cases h6 : 60 < code.length
      · have h6I : (60 : Int) < (code.length : Int) := by omega
        go_wp2
        go_ret
        exact ⟨_, rfl, Lib.hid (fun h => by cases h), hB⟩
      · have h6I : ¬ (60 : Int) < (code.length : Int) := by omega
        by_cases h7 : 128 < ol
        · have h7I : (128 : Int) < (ol : Int) := by omega
          go_wp2
          go_ret
          exact ⟨_, rfl, Lib.hid (fun h => by cases h), hB⟩
        · have h7I : ¬ (128 : Int) < (ol : Int) := by omega
          by_cases h4 : 400 < m
          · have h4I : (400 : Int) < (m : Int) := by omega
            go_wp2
            go_ret
            exact ⟨_, rfl, Lib.hid (fun h => by cases h), hB⟩
          · have h4I : ¬ (400 : Int) < (m : Int) := by omega
            have HSH := Lib.hid (show ShortE cn g code.length ol from ⟨by have := HM.out; omega, by omega, by omega⟩)
            clear H4 HM
            go_wp2
            go_loop [9, 10] (fun s x => ∃ j q : Nat, j ≤ code.length ∧ x = .int .i64 j ∧ s = .int .i64 q ∧ q ≤ j) (fun _ x => code.length - (intOf x).toNat)
            case atStart => exact ⟨0, 0, Nat.zero_le _, rfl, rfl, by omega⟩
            case round =>
              obtain ⟨j, q, hj, rfl, rfl, hq⟩ := hrel
              by_cases hlt2 : j < code.length
              · have hltJ : (j : Int) < (code.length : Int) := by omega
                rcases HC.out with h0 | ⟨cb, co, rfl, hcap, hcell⟩
                · rw [h0] at hlt2; simp at hlt2
                have q0 := bkeep hB (hcell j hlt2).c0
                clear hcell
                obtain ⟨op, hop⟩ : ∃ op, (code.getD j default).op = op := ⟨_, rfl⟩
                rw [hop] at q0
                clear hop
                by_cases h7 : op = 7
                · subst h7
                  go_wp2
                  go_round
                  case rel => exact ⟨j + 1, q + 1, by omega, by go_num, by go_num, by omega⟩
                  case measure => simp [intOf]; omega
                · have h7I : (op == 7) = false := by simpa using h7
                  clear h7
                  go_wp2
                  go_round
                  case rel => exact ⟨j + 1, q, by omega, by go_num, rfl, by omega⟩
                  case measure => simp [intOf]; omega
              · obtain rfl : j = code.length := by omega
                go_wp2
                go_ret
                exact ⟨_, rfl, Lib.hid (fun _ => HSH.out), hB⟩
end Go.Proofs.YtannhpadoooedaaDoor
/- exact's laws: numbers that come in, as rows of both; grids of both. -/
namespace Go.Proofs.YtannhpadoooedaaDoor
open Num
open Go.ChangeShapes Go.WideShapes Go.ChangeAt Go.RowKit
set_option linter.unusedVariables false
set_option linter.unusedSimpArgs false
attribute [local go_sem ↓] Go.wp_at_zero Go.wp_at_succ
theorem infoRw : (Tryd.prog.info? 66).map (fun i => (i.zero, i.size, i.bytes)) = some (some (.slice none 0 0), 1, 24) := by kernel_rfl
theorem elRws : Elt Tryd.prog 60 66 1 24 := Elt.mk' Tryd.underlying60 infoRw rfl (by decide) (by decide)
theorem elRw : Elt Tryd.prog 66 84 2 32 := Elt.mk' Tryd.underlying66 infoRef rfl (by decide) (by decide)
theorem OwnF.kp {R : World → Value → Int → Prop} {E : TypeId} {w0 wr w' : World} {v : Value} {n : Nat} {f : Nat → Int} {S : TypeId → Prop} (hR : Lims R) (h : OwnF R E w0 wr v n f) (k : Kp S wr w') (hs : S 120) (hE : S E) (hb : Below w0.heap.size w0 w') : OwnF R E w0 w' v n f := by
  obtain ⟨xs, ⟨h1, _⟩, h2⟩ := h
  refine ⟨xs, ⟨owns_kp h1 k hE, hb⟩, fun j hj => ?_⟩
  obtain ⟨nb, a, len, c, k1, k2, k3⟩ := h2 j hj
  exact ⟨nb, a, len, c, k1, k2, hR _ _ _ _ k3 (k.lim hs)⟩
theorem OwnF.grown {R : World → Value → Int → Prop} {E : TypeId} {w0 wr w' : World} {v : Value} {n : Nat} {f : Nat → Int} (h : OwnF R E w0 wr v n f) (ho : Out (fun k => v.ownBlock = some k) wr w') : Kp (· ≠ E) wr w' :=
  Kp.out ho (fun q t hq ht hne => by
    obtain ⟨xs, h1, _⟩ := h
    rw [own_typ h1 hq] at ht
    exact hne (Option.some.inj ht).symm)
theorem OwnL.kp {α : Type} {S S' : TypeId → Prop} {T : TypeId} {Pr : World → Value → α → Prop} {w0 wr w' : World} {v : Value} {g : List α} (hP : Prs S Pr) (h : OwnL T Pr w0 wr v g) (k : Kp S' wr w') (hs : ∀ t, S t → S' t) (hT : S' T) (hb : Below w0.heap.size w0 w') : OwnL T Pr w0 w' v g := by
  obtain ⟨xs, ⟨h1, _⟩, h2⟩ := h
  refine ⟨xs, ⟨owns_kp h1 k hT, hb⟩, fun j hj => ?_⟩
  obtain ⟨u, hu, hr⟩ := h2 j hj
  exact ⟨u, hu, hP.kp hr (k.weak hs)⟩
set_option maxRecDepth 100000 in
set_option maxHeartbeats 8000000 in
theorem rows10_c (v : Value) (l : List Int) (w : World) (hr : RowI w v l) (hl : l.length ≤ 400) :
    Calls Tryd.prog 29 #[v] w fun e w' => ∃ va vb, e = .returned (.tuple #[va, vb]) ∧ RowO IsInt 34 w.heap.size w' va l ∧ RowO IsRef 84 w.heap.size w' vb l ∧ Below w.heap.size w w' := by
  obtain ⟨ra, rc, rfl, hr⟩ := hr
  have HR := Lib.hid hr
  clear hr
  have hB := Below.refl w.heap.size w
  go_enter Tryd.func29, Tryd.ntmps29
  go_wp2
  go_loopw [4, 5, 6] (fun va vb x wr => ∃ j : Nat, j ≤ l.length ∧ x = .int .i64 j ∧ Hid (OwnF IsInt 34 w wr va j (fun i => l.getD i 0)) ∧ Hid (OwnF IsRef 84 w wr vb j (fun i => l.getD i 0))) (fun _ _ x _ => l.length - (intOf x).toNat)
  case atStart => exact ⟨0, Nat.zero_le _, rfl, Lib.hid (OwnF.nil _ _ _ hB), Lib.hid (OwnF.nil _ _ _ hB)⟩
  case round =>
    obtain ⟨j, hj, rfl, hF, hG⟩ := hrel
    have hBr := hF.out.bel
    obtain ⟨fa, fc, hfv⟩ : ∃ a c, _ = Value.slice a j c := by obtain ⟨a, c, h, _⟩ := hF.out.view; exact ⟨a, c, h⟩
    subst hfv
    obtain ⟨ga, gc, hgv⟩ : ∃ a c, _ = Value.slice a j c := by obtain ⟨a, c, h, _⟩ := hG.out.view; exact ⟨a, c, h⟩
    subst hgv
    by_cases hlt : j < l.length
    · have hltI : (j : Int) < (l.length : Int) := by omega
      obtain ⟨rb, ro, rfl, hc, hI⟩ := HR.out j hlt
      have zrb := cell_lt hc
      have HCE := Lib.hid hc
      have hc2 := bkeep hBr hc
      have oc := fun W => of_c (l.getD j 0) W hI.1 hI.2
      have rc := fun W => rof_c (l.getD j 0) W hI.1 hI.2
      have HSN := Lib.hid (snoc_fun l j hlt)
      obtain ⟨z, hz⟩ : ∃ z, l.getD j 0 = z := ⟨_, rfl⟩
      rw [hz] at hc2 oc rc HSN HCE
      clear hc hI hz
      go_wp2_with fail
      refine (oc _).mono ?_
      rintro e w5 ⟨⟨v5, rfl, hi5⟩, hb5⟩
      have HF5 := Lib.hid (hF.out.below lims_int hb5)
      have HG5 := Lib.hid (hG.out.below lims_ref hb5)
      have HI5 := Lib.hid hi5
      obtain ⟨n5, a5, c5, l5, rfl, -⟩ := hi5
      unfold iv at *
      clear oc hc2
      go_wp2_with (first
        | (at_builtin; refine app_num elInt (by decide) lims_int (by rfl) (by rfl) HF5.out HI5.out (by rfl) (by rfl) (by omega) ?_; intro v8 w8 hF8 _ ho8; have HF8 := Lib.hid (hF8.congr' HSN.out); have HG8 := Lib.hid (HG5.out.kp lims_ref (HF5.out.grown ho8) (by decide) (by decide) hF8.bel); have hc8 := bkeep hF8.bel HCE.out; obtain ⟨a8, c8, hv8⟩ : ∃ a c, v8 = Value.slice a (j + 1) c := (by obtain ⟨a, c, h, _⟩ := hF8.view; exact ⟨a, c, h⟩); subst hv8; clear hF8 ho8)
        | (go_at_call 39; refine (rc _).mono ?_; rintro e w9 ⟨⟨v9, rfl, hi9⟩, hb9⟩; have HF9 := Lib.hid (HF8.out.below lims_int hb9); have HG9 := Lib.hid (HG8.out.below lims_ref hb9); have HI9 := Lib.hid hi9; obtain ⟨n9, a9, c9, l9, rfl, -⟩ := hi9; unfold iv at *; clear rc hc8)
        | (at_builtin; refine app_num elRw (by decide) lims_ref (by rfl) (by rfl) HG9.out HI9.out (by rfl) (by rfl) (by omega) ?_)
        | fail)
      intro v7 w7 hG7 _ ho7
      have HG7 := Lib.hid (hG7.congr' HSN.out)
      have HF7 := Lib.hid (HF9.out.kp lims_int (HG9.out.grown ho7) (by decide) (by decide) hG7.bel)
      clear hG7 ho7
      go_wp2
      exact ⟨⟨j + 1, by omega, by go_num, HF7, HG7⟩, by simp [intOf]; omega⟩
    · obtain rfl : j = l.length := by omega
      go_wp2
      go_ret2
      exact ⟨_, _, rfl, hF.out.rowO, hG.out.rowO, hBr⟩
/-- rows are of one length -/
def Even (g : Grid) : Prop := ∀ k, k < g.length → (g.getD k []).length = (g.getD 0 []).length
/-- what grids answers -/
def GridsE (g : Grid) (w : World) (e : Ending) (w' : World) : Prop :=
  (∃ a b f, e = .returned (.tuple #[a, b, .bool f]) ∧ (f = true ↔ Even g) ∧ OwnL 31 (RowO IsInt 34 w.heap.size) w w' a g ∧ OwnL 66 (RowO IsRef 84 w.heap.size) w w' b g) ∧ Below w.heap.size w w'
set_option maxRecDepth 100000 in
set_option maxHeartbeats 8000000 in
theorem grids10_c (v : Value) (g : Grid) (w : World) (hg : GridI w v g) (hs : sumG g + g.length ≤ 400) :
    Calls Tryd.prog 26 #[v] w (GridsE g w) := by
  obtain ⟨ga, gc, rfl, hv⟩ := hg
  have HV := Lib.hid hv
  have HS := Lib.hid (fun k (hk : k < g.length) => Nat.le_trans (sumG_le hk) (show sumG g ≤ 400 by omega))
  have hgl : g.length ≤ 400 := by omega
  clear hv hs
  have hB := Below.refl w.heap.size w
  go_enter Tryd.func26, Tryd.ntmps26
  go_wp2
  go_loopw [2, 3, 4, 5] (fun a b f x wr => ∃ k : Nat, k ≤ g.length ∧ x = .int .i64 k ∧ Hid (OwnL 31 (RowO IsInt 34 w.heap.size) w wr a (g.take k)) ∧ Hid (OwnL 66 (RowO IsRef 84 w.heap.size) w wr b (g.take k)) ∧ ∃ q : Bool, f = .bool q ∧ Hid (q = true ↔ ∀ i, i < k → (g.getD i []).length = (g.getD 0 []).length)) (fun _ _ _ x _ => g.length - (intOf x).toNat)
  case atStart => exact ⟨0, Nat.zero_le _, rfl, Lib.hid (OwnL.nil _ _ hB), Lib.hid (OwnL.nil _ _ hB), true, rfl, Lib.hid ⟨fun _ i hi => by omega, fun _ => rfl⟩⟩
  case round =>
    obtain ⟨k, hk, rfl, hO, hQ, q, rfl, HE⟩ := hrel
    have hBr := hO.out.bel
    have hlen : (g.take k).length = k := by rw [List.length_take]; omega
    obtain ⟨va, vc, hvv⟩ := hO.out.ex
    rw [hlen] at hvv
    subst hvv
    obtain ⟨ua, uc, huv⟩ := hQ.out.ex
    rw [hlen] at huv
    subst huv
    have HLEN := Lib.hid hlen
    clear hlen
    by_cases hlt : k < g.length
    · have hltI : (k : Int) < (g.length : Int) := by omega
      obtain ⟨gb, go, u, rfl, hu, hrow⟩ := HV.out k hlt
      obtain ⟨gb', go', u0, he, hu0, hrow0⟩ := HV.out 0 (by omega)
      cases he
      obtain ⟨ra0, rc0, rfl, -⟩ := hrow0
      have hl3 := HS.out k hlt
      have HT := Lib.hid (take_getD [] hlt)
      have h0I : (0 : Int) < (g.length : Int) := by omega
      rw [Nat.add_zero] at hu0
      have hrowR := Lib.hid hrow
      obtain ⟨ra, rc, rfl, -⟩ := hrow
      obtain ⟨m0, hm0⟩ : ∃ m, (g.getD 0 []).length = m := ⟨_, rfl⟩
      obtain ⟨l, hl⟩ : ∃ l, g.getD k [] = l := ⟨_, rfl⟩
      rw [hm0] at hu0 HE
      rw [hl] at hu hl3 HT hrowR
      obtain ⟨lk, hlk⟩ : ∃ n, l.length = n := ⟨_, rfl⟩
      rw [hlk] at hu hrowR
      have HCE := Lib.hid (And.intro hu hu0)
      have HNX := Lib.hid (show (∀ i, i < k + 1 → (g.getD i []).length = m0) ↔ ((∀ i, i < k → (g.getD i []).length = m0) ∧ lk = m0) from
        ⟨fun h => ⟨fun i hi => h i (by omega), by have := h k (by omega); rw [hl, hlk] at this; exact this⟩, fun h i hi => by
          by_cases e : i = k
          · subst e; rw [hl, hlk]; exact h.2
          · exact h.1 i (by omega)⟩)
      have HM0 := Lib.hid hm0
      have hu2 := bkeep hBr hu
      have zgb := cell_lt hu2
      have rx := fun W (h : Below wr.heap.size wr W) => rows10_c (.slice ra lk rc) l W (hrowR.out.keep (bthen hBr h)) hl3
      have hBw := Below.refl wr.heap.size wr
      clear hu hu0 hl hlk hm0
      go_wp2_with fail
      refine (rx _ (by repeat (first | exact Below.refl _ _ | exact hBw | refine Below.drew ?_ | refine below_drewN ?_ _ | refine bset ?_ (by simp <;> omega) _ | refine bal ?_ _))).mono ?_
      rintro e w5 ⟨v5, v6, rfl, hr5, hr6, hb5⟩
      have hB5 : Below wr.heap.size wr w5 := bthen (by repeat (first | exact Below.refl _ _ | exact hBw | refine Below.drew ?_ | refine below_drewN ?_ _ | refine bset ?_ (by simp <;> omega) _ | refine bal ?_ _)) hb5
      have HO5 := Lib.hid (hO.out.below (prs_rowO lims_int _ _) hB5)
      have HQ5 := Lib.hid (hQ.out.below (prs_rowO lims_ref _ _) hB5)
      have HR5 := Lib.hid (hr5.rebase (base' := w.heap.size) (by first | exact hBr.size | (simp; exact hBr.size)))
      have HR6 := Lib.hid (hr6.rebase (base' := w.heap.size) (by first | exact hBr.size | (simp; exact hBr.size)))
      obtain ⟨a5, n5, c5, rfl⟩ : ∃ a n c, v5 = Value.slice a n c := by obtain ⟨a, c, h⟩ := hr5.ex; exact ⟨a, _, c, h⟩
      obtain ⟨a6, n6, c6, rfl⟩ : ∃ a n c, v6 = Value.slice a n c := by obtain ⟨a, c, h⟩ := hr6.ex; exact ⟨a, _, c, h⟩
      clear hr5 hr6 rx hu2
      go_wp2_with (first
        | (at_builtin; refine appL elRow (prs_rowO lims_int _ _) (by decide) (by rfl) (by rfl) (HO5.out.below (prs_rowO lims_int _ _) (bal (Below.refl _ _) _)) (HR5.out.keep lims_int (bal (Below.refl _ _) _)) (by rfl) (by rfl) (cell_new rfl rfl) (by rw [HLEN.out]; omega) (by rw [HLEN.out]; unfold maxLen; omega) ?_; intro v8 w8 hO8 hk8; have hb58 : Below w.heap.size w w8 := hO8.bel; have HQ8 := Lib.hid ((HQ5.out.below (prs_rowO lims_ref _ _) (bal (Below.refl _ _) _)).kp (prs_rowO lims_ref _ _) hk8 (fun t h e => by rcases h with h | h <;> (rw [h] at e; exact absurd e (by decide))) (by decide) hb58); have HR8 := Lib.hid (((HR6.out.keep lims_ref (bal (Below.refl _ _) _)).kp lims_ref hk8 (by decide) (by decide))); rw [← HT.out] at hO8; have HO8 := Lib.hid hO8; obtain ⟨a8, c8, hv8⟩ : ∃ a c, v8 = Value.slice a (k + 1) c := (by obtain ⟨a, c, h⟩ := hO8.ex; exact ⟨a, c, by rw [h, List.length_take]; congr 1; omega⟩); subst hv8; clear hO8 hk8)
        | (at_builtin; refine appL elRws (prs_rowO lims_ref _ _) (by decide) (by rfl) (by rfl) (HQ8.out.below (prs_rowO lims_ref _ _) (bal (Below.refl _ _) _)) (HR8.out.keep lims_ref (bal (Below.refl _ _) _)) (by rfl) (by rfl) (cell_new rfl rfl) (by rw [HLEN.out]; omega) (by rw [HLEN.out]; unfold maxLen; omega) ?_)
        | fail)
      intro v7 w7 hQ7 hk7
      have hB7 : Below w.heap.size w w7 := hQ7.bel
      have HO7 := Lib.hid ((HO8.out.below (prs_rowO lims_int _ _) (bal (Below.refl _ _) _)).kp (prs_rowO lims_int _ _) hk7 (fun t h e => by rcases h with h | h <;> (rw [h] at e; exact absurd e (by decide))) (by decide) hB7)
      rw [← HT.out] at hQ7
      have HQ7 := Lib.hid hQ7
      have c1 := bkeep hB7 HCE.out.1
      have c0 := bkeep hB7 HCE.out.2
      have zg := cell_lt c1
      obtain ⟨a7, c7, hv7⟩ : ∃ a c, v7 = Value.slice a (k + 1) c := by obtain ⟨a, c, h⟩ := hQ7.ex; exact ⟨a, c, by rw [h, List.length_take]; congr 1; omega⟩
      subst hv7
      clear hQ7 hk7
      cases q with
      | false =>
        have HN := Lib.hid (show false = true ↔ ∀ i, i < k + 1 → (g.getD i []).length = m0 from ⟨(fun h => by cases h), fun h => HE.out.2 (HNX.out.1 h).1⟩)
        go_wp2
        go_quiet (fail)
        go_wp2
        refine ⟨⟨k + 1, by omega, by go_num, ?_, ?_, false, rfl, ?_⟩, by simp [intOf]; omega⟩
        · exact Lib.hid (HO7.out.below (prs_rowO lims_int _ _) (below_drewN (Below.refl _ _) _))
        · exact Lib.hid (HQ7.out.below (prs_rowO lims_ref _ _) (below_drewN (Below.refl _ _) _))
        · rw [HM0.out]; exact HN
      | true =>
        by_cases hm : lk = m0
        · have HN := Lib.hid (show true = true ↔ ∀ i, i < k + 1 → (g.getD i []).length = m0 from ⟨(fun h => HNX.out.2 ⟨HE.out.1 rfl, hm⟩), fun _ => rfl⟩)
          have hmI : ((lk : Int) == (m0 : Int)) = true := by rw [hm]; simp
          have hmN : (lk == m0) = true := by rw [hm]; simp
          clear hm
          go_wp2
          go_quiet (fail)
          go_wp2
          refine ⟨⟨k + 1, by omega, by go_num, ?_, ?_, true, rfl, ?_⟩, by simp [intOf]; omega⟩
          · exact Lib.hid (HO7.out.below (prs_rowO lims_int _ _) (below_drewN (Below.refl _ _) _))
          · exact Lib.hid (HQ7.out.below (prs_rowO lims_ref _ _) (below_drewN (Below.refl _ _) _))
          · rw [HM0.out]; exact Lib.hid ⟨fun _ => HN.out.1 (by trivial), fun _ => rfl⟩
        · have HN := Lib.hid (show false = true ↔ ∀ i, i < k + 1 → (g.getD i []).length = m0 from ⟨(fun h => by cases h), fun h => absurd (HNX.out.1 h).2 hm⟩)
          have hmI : ((lk : Int) == (m0 : Int)) = false := by simp; omega
          have hmN : (lk == m0) = false := by simp; exact hm
          clear hm
          go_wp2
          go_quiet (fail)
          go_wp2
          refine ⟨⟨k + 1, by omega, by go_num, ?_, ?_, false, rfl, ?_⟩, by simp [intOf]; omega⟩
          · exact Lib.hid (HO7.out.below (prs_rowO lims_int _ _) (below_drewN (Below.refl _ _) _))
          · exact Lib.hid (HQ7.out.below (prs_rowO lims_ref _ _) (below_drewN (Below.refl _ _) _))
          · rw [HM0.out]; exact HN
    · obtain rfl : k = g.length := by omega
      rw [List.take_length] at hO hQ
      have HEV := Lib.hid (show q = true ↔ Even g from HE.out)
      clear HE
      go_wp2
      go_ret3
      exact ⟨⟨_, _, _, rfl, HEV.out, hO.out, hQ.out⟩, hBr⟩
end Go.Proofs.YtannhpadoooedaaDoor
/- The reference's numbers: Power. -/
namespace Go.Proofs.YtannhpadoooedaaDoor
open Num
open Go.ChangeShapes Go.WideShapes Go.ChangeAt Go.RowKit
set_option linter.unusedVariables false
set_option linter.unusedSimpArgs false
theorem pow_limbs (q m : Nat) (hm : m < 16) : NumR.Limbs ((List.replicate (q + 1) 0).set q (2 ^ m)) ∧ NumR.val ((List.replicate (q + 1) 0).set q (2 ^ m)) = 2 ^ (16 * q + m) := by
  have h2 : 2 ^ m < 65536 := Nat.lt_of_lt_of_le (Nat.pow_lt_pow_right (by omega) hm) (by decide)
  have e : (List.replicate (q + 1) 0).set q (2 ^ m) = List.replicate q 0 ++ [2 ^ m] := by
    rw [List.replicate_succ', List.set_append_right _ _ (by simp)]
    simp
  rw [e]
  refine ⟨fun x hx => ?_, ?_⟩
  · simp only [List.mem_append, List.mem_replicate, List.mem_singleton] at hx
    rcases hx with ⟨_, rfl⟩ | rfl
    · exact NumR.BB_pos
    · exact h2
  · rw [NumR.val_append, NumR.val_zeros]
    simp only [NumR.val, List.length_replicate, Nat.mul_zero, Nat.add_zero, Nat.zero_add]
    rw [Nat.pow_add, Nat.pow_mul]
    rfl
end Go.Proofs.YtannhpadoooedaaDoor
