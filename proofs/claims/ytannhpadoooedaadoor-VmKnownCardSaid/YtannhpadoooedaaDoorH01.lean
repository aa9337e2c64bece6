/- Texts of this seat, laid together: VmK, VwK. Each opens with its own remark, which says what it proves, and under which conditions. -/
import Derived.Test.YtannhpadoooedaaDoorG37
import Derived.Test.YtannhpadoooedaaDoorG35
import Derived.Test.YtannhpadoooedaaDoorG38
import Derived.Deep.Cut
import Derived.Deep.DeepCutAuto
set_option linter.unusedVariables false
set_option linter.unusedSimpArgs false
/- vm: Register, Copy; what a nil machine answers. -/
namespace Go.Proofs.YtannhpadoooedaaDoor
open Num
open Go.ChangeShapes Go.WideShapes Go.ChangeAt Go.RowKit
set_option linter.unusedVariables false
set_option linter.unusedSimpArgs false
attribute [local go_sem ↓] Go.wp_at_zero Go.wp_at_succ
section
variable {base b rb rc : Nat} {ins regs : Int} {code : List Ins} {outs : List Int} {g : Grid} {n : Nat}
set_option maxRecDepth 100000 in
set_option maxHeartbeats 4000000 in
theorem reg_c (w : World) (k m : Nat) (h : Mach base w b rb rc ins regs code outs g n) (hR : Rect m g) (hm : m ≤ 4096) (hk : k < g.length) (hg : g.length ≤ 128) :
    Calls Tryd.prog 20 #[.pointer (some ⟨b, 0, none⟩), .int .i64 (k : Int)] w fun e w' => (∃ v, e = .returned (.tuple #[v, .int .i64 0]) ∧ RowW w.heap.size w' v (g.getD k [])) ∧ Below w.heap.size w w' := by
  have h4 := h.c4
  obtain ⟨u, hu, hr⟩ := h.regs.cell k hk
  have hl := hR k hk
  have hB := Below.refl w.heap.size w
  have kcl := fun W (q : Below w.heap.size w W) => cloneRow_c base u (g.getD k []) W (hr.keep lims_int q) (by omega)
  obtain ⟨l, hle⟩ : ∃ l, g.getD k [] = l := ⟨_, rfl⟩
  rw [hle] at kcl hl ⊢
  have HL := Lib.hid hl
  have hkI : (k : Int) < (g.length : Int) := by omega
  have q1 : decide ((k : Int) < 0) = false := by simp
  have q2 : decide ((g.length : Int) ≤ (k : Int)) = false := by simp; omega
  have q3 : decide (g.length ≤ k) = false := by simp; omega
  clear h hr hl hle
  go_enter Tryd.func20, Tryd.ntmps20
  go_wp2_with fail
  refine (kcl _ (by repeat (first | exact Below.refl _ _ | exact hB | refine Below.drew ?_ | refine below_drewN ?_ _ | refine bset ?_ (by simp <;> omega) _ | refine bal ?_ _))).mono ?_
  rintro e w1 ⟨⟨v, rfl, hv⟩, hb1⟩
  have HV := Lib.hid hv
  obtain ⟨a1, c1, rfl⟩ := hv.ex
  clear hv kcl
  go_wp2
  go_ret2
  exact ⟨⟨_, rfl, HV.out⟩, hb1⟩
set_option maxRecDepth 100000 in
set_option maxHeartbeats 4000000 in
theorem reg_no (w : World) (k : Int) (h : Mach base w b rb rc ins regs code outs g n) (hk : k < 0 ∨ g.length ≤ k) :
    Calls Tryd.prog 20 #[.pointer (some ⟨b, 0, none⟩), .int .i64 k] w fun e w' => e = .returned (.tuple #[.slice none 0 0, .int .i64 5]) ∧ Below w.heap.size w w' := by
  have h4 := h.c4
  have hB := Below.refl w.heap.size w
  clear h
  by_cases h0 : k < 0
  · clear hk
    go_enter Tryd.func20, Tryd.ntmps20
    go_wp2
    go_ret2
    exact ⟨rfl, by repeat (first | exact Below.refl _ _ | exact hB | refine Below.drew ?_ | refine below_drewN ?_ _ | refine bset ?_ (by simp <;> omega) _ | refine bal ?_ _)⟩
  · have h1 : (g.length : Int) ≤ k := by omega
    clear hk
    go_enter Tryd.func20, Tryd.ntmps20
    go_wp2
    go_ret2
    exact ⟨rfl, by repeat (first | exact Below.refl _ _ | exact hB | refine Below.drew ?_ | refine below_drewN ?_ _ | refine bset ?_ (by simp <;> omega) _ | refine bal ?_ _)⟩
end
set_option maxRecDepth 100000 in
theorem reg_nil (w : World) (k : Int) : Calls Tryd.prog 20 #[.pointer none, .int .i64 k] w fun e w' => e = .returned (.tuple #[.slice none 0 0, .int .i64 1]) ∧ Below w.heap.size w w' := by
  have hB := Below.refl w.heap.size w
  go_enter Tryd.func20, Tryd.ntmps20
  go_wp2
  go_ret2
  exact ⟨rfl, by repeat (first | exact Below.refl _ _ | exact hB | refine Below.drew ?_ | refine below_drewN ?_ _ | refine bset ?_ (by simp <;> omega) _ | refine bal ?_ _)⟩
set_option maxRecDepth 100000 in
theorem outs_nil (w : World) : Calls Tryd.prog 21 #[.pointer none] w fun e w' => e = .returned (.tuple #[.slice none 0 0, .int .i64 1]) ∧ Below w.heap.size w w' := by
  have hB := Below.refl w.heap.size w
  go_enter Tryd.func21, Tryd.ntmps21
  go_wp2
  go_ret2
  exact ⟨rfl, by repeat (first | exact Below.refl _ _ | exact hB | refine Below.drew ?_ | refine below_drewN ?_ _ | refine bset ?_ (by simp <;> omega) _ | refine bal ?_ _)⟩
set_option maxRecDepth 100000 in
theorem step_nil (w : World) : Calls Tryd.prog 17 #[.pointer none] w fun e w' => e = .returned (.int .i64 1) ∧ Below w.heap.size w w' := by
  have hB := Below.refl w.heap.size w
  go_enter Tryd.func17, Tryd.ntmps17
  go_wp2
  go_ret
  exact ⟨rfl, by repeat (first | exact Below.refl _ _ | exact hB | refine Below.drew ?_ | refine below_drewN ?_ _ | refine bset ?_ (by simp <;> omega) _ | refine bal ?_ _)⟩
set_option maxRecDepth 100000 in
theorem next_nil (w : World) : Calls Tryd.prog 18 #[.pointer none] w fun e w' => e = .returned (.int .i64 (-1)) ∧ Below w.heap.size w w' := by
  have hB := Below.refl w.heap.size w
  go_enter Tryd.func18, Tryd.ntmps18
  go_wp2
  go_ret
  exact ⟨rfl, by repeat (first | exact Below.refl _ _ | exact hB | refine Below.drew ?_ | refine below_drewN ?_ _ | refine bset ?_ (by simp <;> omega) _ | refine bal ?_ _)⟩
set_option maxRecDepth 100000 in
theorem copy_nil (w : World) : Calls Tryd.prog 23 #[.pointer none] w fun e w' => e = .returned (.pointer none) ∧ Below w.heap.size w w' := by
  have hB := Below.refl w.heap.size w
  go_enter Tryd.func23, Tryd.ntmps23
  go_wp2
  go_ret
  exact ⟨rfl, by repeat (first | exact Below.refl _ _ | exact hB | refine Below.drew ?_ | refine below_drewN ?_ _ | refine bset ?_ (by simp <;> omega) _ | refine bal ?_ _)⟩
set_option maxRecDepth 100000 in
theorem done_nil (w : World) : Calls Tryd.prog 19 #[.pointer none] w fun e w' => e = .returned (.bool false) ∧ Below w.heap.size w w' := by
  have hB := Below.refl w.heap.size w
  go_enter Tryd.func19, Tryd.ntmps19
  go_wp2
  go_quiet (fail)
  go_wp2
  go_ret
  exact ⟨rfl, by repeat (first | exact Below.refl _ _ | exact hB | refine Below.drew ?_ | refine below_drewN ?_ _ | refine bset ?_ (by simp <;> omega) _ | refine bal ?_ _)⟩
end Go.Proofs.YtannhpadoooedaaDoor
/- The law VmKnown: what the document's examples name. -/
namespace Go.Proofs.YtannhpadoooedaaDoor
open Num
open Go.ChangeShapes Go.WideShapes Go.ChangeAt Go.RowKit
set_option linter.unusedVariables false
set_option linter.unusedSimpArgs false
attribute [local go_sem ↓] Go.wp_at_zero Go.wp_at_succ
theorem gridLit12 (w : World) (a c d : Int) (T1 T2 T3 : TypeId) (ha : I64 a) (hc : I64 c) (hd : I64 d) :
    GridI (((w.alloc (.cells #[.int .i64 a] T1)).alloc (.cells #[.int .i64 c, .int .i64 d] T2)).alloc (.cells #[.slice (some ⟨w.heap.size, 0, none⟩) 1 1, .slice (some ⟨w.heap.size + 1, 0, none⟩) 2 2] T3)) (.slice (some ⟨w.heap.size + 1 + 1, 0, none⟩) 2 2) [[a], [c, d]] := by
  refine gridLit (n := 0) (n1 := 1) (n2 := 2) (b1 := w.heap.size) (b2 := w.heap.size + 1) (cell_new (by simp) rfl) (cell_new (by simp) rfl) rfl rfl (fun k hk => ?_) (fun k hk => ?_)
  · obtain rfl : k = 0 := by omega
    exact ⟨cell_alloc (cell_alloc (cell_new rfl rfl) _) _, ha⟩
  · rcases (show k = 0 ∨ k = 1 by omega) with rfl | rfl
    · exact ⟨cell_alloc (cell_new (by simp) rfl) _, hc⟩
    · exact ⟨cell_alloc (cell_new (by simp) rfl) _, hd⟩
theorem gridLit00 (w : World) (T1 T2 T3 : TypeId) :
    GridI (((w.alloc (.cells #[] T1)).alloc (.cells #[] T2)).alloc (.cells #[.slice (some ⟨w.heap.size, 0, none⟩) 0 0, .slice (some ⟨w.heap.size + 1, 0, none⟩) 0 0] T3)) (.slice (some ⟨w.heap.size + 1 + 1, 0, none⟩) 2 2) [[], []] :=
  gridLit (n := 0) (n1 := 0) (n2 := 0) (b1 := w.heap.size) (b2 := w.heap.size + 1) (cell_new (by simp) rfl) (cell_new (by simp) rfl) rfl rfl (fun k hk => absurd hk (by omega)) (fun k hk => absurd hk (by omega))
theorem gridLit2 (w : World) (B : Nat) (hB : B = w.heap.size) (a b : Int) (T1 T3 : TypeId) (ha : I64 a) (hb : I64 b) :
    GridI ((w.alloc (.cells #[.int .i64 a, .int .i64 b] T1)).alloc (.cells #[.slice (some ⟨B, 0, none⟩) 2 2] T3)) (.slice (some ⟨B + 1, 0, none⟩) 1 1) [[a, b]] := by
  subst hB
  refine ⟨_, _, rfl, fun k hk => ?_⟩
  have hk2 : k < 1 := hk
  obtain rfl : k = 0 := by omega
  refine ⟨_, 0, _, rfl, cell_new (by simp) rfl, _, _, rfl, fun j hj => ⟨_, 0, rfl, ?_⟩⟩
  have hj2 : j < 2 := hj
  rcases (show j = 0 ∨ j = 1 by omega) with rfl | rfl
  · exact ⟨cell_alloc (cell_new rfl rfl) _, ha⟩
  · exact ⟨cell_alloc (cell_new rfl rfl) _, hb⟩
/-- the two rows laid in the other order -/
theorem gridLit22' (w : World) (a b c d : Int) (T1 T2 T3 : TypeId) (ha : I64 a) (hb : I64 b) (hc : I64 c) (hd : I64 d) :
    GridI (((w.alloc (.cells #[.int .i64 c, .int .i64 d] T2)).alloc (.cells #[.int .i64 a, .int .i64 b] T1)).alloc (.cells #[.slice (some ⟨w.heap.size + 1, 0, none⟩) 2 2, .slice (some ⟨w.heap.size, 0, none⟩) 2 2] T3)) (.slice (some ⟨w.heap.size + 1 + 1, 0, none⟩) 2 2) [[a, b], [c, d]] := by
  refine gridLit (n := 0) (n1 := 2) (n2 := 2) (b1 := w.heap.size + 1) (b2 := w.heap.size) (cell_new (by simp) rfl) (cell_new (by simp) rfl) rfl rfl (fun k hk => ?_) (fun k hk => ?_)
  · rcases (show k = 0 ∨ k = 1 by omega) with rfl | rfl
    · exact ⟨cell_alloc (cell_new (by simp) rfl) _, ha⟩
    · exact ⟨cell_alloc (cell_new (by simp) rfl) _, hb⟩
  · rcases (show k = 0 ∨ k = 1 by omega) with rfl | rfl
    · exact ⟨cell_alloc (cell_alloc (cell_new rfl rfl) _) _, hc⟩
    · exact ⟨cell_alloc (cell_alloc (cell_new rfl rfl) _) _, hd⟩
theorem GridI.drew {w : World} {v : Value} {g : Grid} (h : GridI w v g) : GridI w.drew v g := h.keep (Below.refl _ _).drew
theorem runk1 {w : World} {e : Ending} {w' : World} (h : RunPost 2 3 exCode exOuts [[7], [3, 1]] w e w') : e = .returned (.tuple #[.slice none 0 0, .int .i64 0, .int .i64 5]) ∧ Below w.heap.size w w' := by
  obtain ⟨h, hB⟩ := h
  have hnf : ¬ FitsG 2 [[7], [3, 1]] := fun f => by have := f.rect 1 (by decide); exact absurd this (by decide)
  rcases h with ⟨hn, _⟩ | ⟨_, _, h⟩ | ⟨_, hf, _⟩ | ⟨_, hf, _⟩
  · exact absurd exOk hn
  · exact ⟨h, hB⟩
  · exact absurd hf hnf
  · exact absurd hf hnf
theorem runk2 {w : World} {e : Ending} {w' : World} (h : RunPost 2 3 exCode exOuts [[], []] w e w') : ∃ v, e = .returned (.tuple #[v, .int .i64 2, .int .i64 0]) ∧ OwnL 31 (RowW w.heap.size) w w' v [[], []] ∧ Below w.heap.size w w' := by
  have a2 : after exCode (startG [[], []] (3 : Int).toNat (([[], []] : Grid).getD 0 []).length) 2 = some [[], [], []] := by decide +kernel
  obtain ⟨h, hB⟩ := h
  rcases h with ⟨hn, _⟩ | ⟨_, hn, _⟩ | ⟨_, _, k, h, hk, h1, h2, _⟩ | ⟨_, _, h, v, h1, h2, h3⟩
  · exact absurd exOk hn
  · exact absurd ⟨by decide, fun k hk => by have : k < 2 := hk; rcases (show k = 0 ∨ k = 1 by omega) with rfl | rfl <;> rfl, by decide⟩ hn
  · have : k < 2 := hk
    have := after_mono h2 (show k + 1 ≤ 2 by omega)
    rw [a2] at this; cases this
  · rw [show exCode.length = 2 from rfl, a2] at h1
    cases h1
    exact ⟨v, h2, h3, hB⟩
theorem ok3 : ProgOk 1 2 [] [1, 0] := ⟨by decide, by decide, by decide, by decide, by decide, by decide, fun k hk => by
    have : k < 2 := hk
    rcases (show k = 0 ∨ k = 1 by omega) with rfl | rfl <;> decide, fun k hk => absurd hk (by simp)⟩
theorem runk3 {w : World} {e : Ending} {w' : World} (h : RunPost 1 2 [] [1, 0] [[4, 5]] w e w') : ∃ v, e = .returned (.tuple #[v, .int .i64 0, .int .i64 0]) ∧ OwnL 31 (RowW w.heap.size) w w' v [[0, 0], [4, 5]] ∧ Below w.heap.size w w' := by
  obtain ⟨h, hB⟩ := h
  rcases h with ⟨hn, _⟩ | ⟨_, hn, _⟩ | ⟨_, _, k, h, hk, h1, h2, _⟩ | ⟨_, _, h, v, h1, h2, h3⟩
  · exact absurd ok3 hn
  · exact absurd ⟨by decide, (fun k hk => by have h1 : k < 1 := hk; have h2 : k = 0 := (by omega); subst h2; rfl), by decide⟩ hn
  · exact absurd hk (by simp)
  · cases h1
    exact ⟨v, h2, h3, hB⟩
theorem newk {w : World} {e : Ending} {w' : World} (h : NewPost 2 3 exCode exOuts [[7, 5], [3, 2]] w e w') : (∃ b rb rc, e = .returned (.tuple #[.pointer (some ⟨b, 0, none⟩), .int .i64 0]) ∧ Mach w.heap.size w' b rb rc 2 3 exCode exOuts [[7, 5], [3, 2], [0, 0]] 0) ∧ Below w.heap.size w w' := by
  obtain ⟨h, hB⟩ := h
  rcases h with ⟨hn, _⟩ | ⟨_, hn, _⟩ | ⟨_, _, h⟩
  · exact absurd exOk hn
  · exact absurd ⟨by decide, fun k hk => by have : k < 2 := hk; rcases (show k = 0 ∨ k = 1 by omega) with rfl | rfl <;> rfl, by decide⟩ hn
  · exact ⟨h, hB⟩
theorem stepk1 {base b rb rc : Nat} {w : World} {e : Ending} {w' : World} (h : StepPost base b rb rc 2 3 exCode exOuts [[7, 5], [3, 2], [0, 0]] 0 w e w') : e = .returned (.int .i64 0) ∧ Mach base w' b rb rc 2 3 exCode exOuts [[7, 5], [3, 2], [4, 3]] 1 ∧ Out (fun k => k = b ∨ k = rb) w w' := by
  have hs : stepR (exCode.getD 0 default) (([[7, 5], [3, 2], [0, 0]] : Grid).getD (exCode.getD 0 default).a.toNat []) (([[7, 5], [3, 2], [0, 0]] : Grid).getD (exCode.getD 0 default).b.toNat []) = some [4, 3] := by decide +kernel
  unfold StepPost at h
  rw [hs] at h
  exact h
theorem stepk2 {base b rb rc : Nat} {w : World} {e : Ending} {w' : World} (h : StepPost base b rb rc 2 3 exCode exOuts [[7, 5], [3, 2], [4, 3]] 1 w e w') : e = .returned (.int .i64 20) ∧ Below w.heap.size w w' := by
  have hs : stepR (exCode.getD 1 default) (([[7, 5], [3, 2], [4, 3]] : Grid).getD (exCode.getD 1 default).a.toNat []) (([[7, 5], [3, 2], [4, 3]] : Grid).getD (exCode.getD 1 default).b.toNat []) = none := by decide +kernel
  unfold StepPost at h
  rw [hs] at h
  exact h
set_option maxRecDepth 100000 in
set_option maxHeartbeats 32000000 in
theorem vmKnown_h (w : World) (hT : Tz32 w) : Calls Tryd.prog 4 #[] w fun e w' => e = .returned (.bool true) ∧ Below w.heap.size w w' := by
  have HT := Lib.hid hT
  clear hT
  have hB := Below.refl w.heap.size w
  go_enter Tryd.func4, Tryd.ntmps4
  go_wp2_with fail
  refine (works_c _ HT.out).mono ?_
  rintro e w0 ⟨rfl, hb0⟩
  go_wp2_with fail
  refine (example_c _).mono ?_
  rintro e w1 ⟨a1, b1, rfl, hi1, ho1, hb1⟩
  have hB1 : Below w.heap.size w w1 := bthen hb0 hb1
  have HI1 := Lib.hid (And.intro hi1 ho1)
  clear hi1 ho1
  have hBw1 := Below.refl w1.heap.size w1
  go_wp2_with fail
  refine (lists_c _ [[7], [3, 1]] _ (gridLit12 _ 7 3 1 _ _ _ (by unfold I64; omega) (by unfold I64; omega) (by unfold I64; omega)) (by decide) (by decide)).mono ?_
  rintro e w2 ⟨v2, rfl, hO2⟩
  have hbx2 : Below w1.heap.size w1 w2 := bthen (by repeat (first | exact Below.refl _ _ | exact hBw1 | refine Below.drew ?_ | refine below_drewN ?_ _ | refine bset ?_ (by simp <;> omega) _ | refine bal ?_ _)) hO2.bel
  have HO2 := Lib.hid hO2
  obtain ⟨va2, vc2, hv2⟩ := hO2.ex
  replace hv2 : v2 = .slice va2 2 vc2 := hv2
  subst hv2
  clear hO2
  go_wp2_with fail
  refine (run_c 2 3 (some a1) (some b1) 2 2 exCode exOuts _ [[7], [3, 1]] 64 _ (HI1.out.1.keep hbx2) (HI1.out.2.keep hbx2) (fun e => by cases e) (fun e => by cases e) HO2.out.gridV (by decide) (by decide) (by decide) (bdL (by decide)) (by omega) (HT.out.keep (bthen hB1 hbx2))).mono ?_
  rintro e w3 hr
  obtain ⟨rfl, hb3⟩ := runk1 hr
  have hB3 := bthen (bthen hB1 hbx2) hb3
  clear hr
  go_wp2_with fail
  refine (example_c _).mono ?_
  rintro e w4 ⟨a4, b4, rfl, hi4, ho4, hb4⟩
  have hB4 : Below w.heap.size w w4 := bthen hB3 hb4
  have HI4 := Lib.hid (And.intro hi4 ho4)
  clear hi4 ho4
  have hBw4 := Below.refl w4.heap.size w4
  go_wp2_with fail
  refine (lists_c _ [[], []] _ (gridLit00 _ _ _ _) (by decide) (by decide)).mono ?_
  rintro e w5 ⟨v5, rfl, hO5⟩
  have hbx5 : Below w4.heap.size w4 w5 := bthen (by repeat (first | exact Below.refl _ _ | exact hBw4 | refine Below.drew ?_ | refine below_drewN ?_ _ | refine bset ?_ (by simp <;> omega) _ | refine bal ?_ _)) hO5.bel
  have HO5 := Lib.hid hO5
  obtain ⟨va5, vc5, hv5⟩ := hO5.ex
  replace hv5 : v5 = .slice va5 2 vc5 := hv5
  subst hv5
  clear hO5
  go_wp2_with fail
  refine (run_c 2 3 (some a4) (some b4) 2 2 exCode exOuts _ [[], []] 64 _ (HI4.out.1.keep hbx5) (HI4.out.2.keep hbx5) (fun e => by cases e) (fun e => by cases e) HO5.out.gridV (by decide) (by decide) (by decide) (bdL (by decide)) (by omega) (HT.out.keep (bthen hB4 hbx5))).mono ?_
  rintro e w6 hr
  obtain ⟨v6, rfl, hO6, hb6⟩ := runk2 hr
  have HO6 := Lib.hid hO6.gridV
  obtain ⟨va6, vc6, hv6⟩ := hO6.ex
  replace hv6 : v6 = .slice va6 2 vc6 := hv6
  subst hv6
  have hB6 := bthen (bthen hB4 hbx5) hb6
  have hBw6 := Below.refl w6.heap.size w6
  clear hr hO6
  have hq0 : ∀ W, Below (w6.alloc (.cells #[.int .i64 1, .int .i64 0] 3)).heap.size (w6.alloc (.cells #[.int .i64 1, .int .i64 0] 3)) W → IntsV W (some ⟨w6.heap.size, 0, none⟩) 2 [1, 0] := fun W h => .inr ⟨w6.heap.size, 0, rfl, by decide, fun k hk => by
    have hk2 : k < 2 := hk
    rcases (show k = 0 ∨ k = 1 by omega) with rfl | rfl
    · exact bkeep h (cell_new rfl rfl)
    · exact bkeep h (cell_new rfl rfl)⟩
  have HQ0 := Lib.hid hq0
  clear hq0
  have hBwa := Below.refl (w6.alloc (.cells #[.int .i64 1, .int .i64 0] 3)).heap.size (w6.alloc (.cells #[.int .i64 1, .int .i64 0] 3))
  go_wp2_with fail
  refine (lists_c _ [[4, 5]] _ (gridLit2 _ (w6.heap.size + 1) (by simp) 4 5 _ _ (by unfold I64; omega) (by unfold I64; omega)) (by decide) (by decide)).mono ?_
  rintro e w7 ⟨v7, rfl, hO7⟩
  have hb7a := bthen (bal (bal hBwa _) _) hO7.bel
  have hb7 : Below w6.heap.size w6 w7 := bthen (bal hBw6 _) hb7a
  have HO7 := Lib.hid hO7
  obtain ⟨va7, vc7, hv7⟩ := hO7.ex
  replace hv7 : v7 = .slice va7 1 vc7 := hv7
  subst hv7
  clear hO7
  go_wp2_with fail
  refine (run_c 1 2 none (some ⟨w6.heap.size, 0, none⟩) 0 2 [] [1, 0] _ [[4, 5]] 64 _ (.inl rfl) (HQ0.out _ hb7a) (fun e => rfl) (fun e => by cases e) HO7.out.gridV (by decide) (by decide) (by decide) (bdL (by decide)) (by omega) (HT.out.keep (bthen hB6 hb7))).mono ?_
  rintro e w8 hr
  obtain ⟨v8, rfl, hO8, hb8⟩ := runk3 hr
  have HO8 := Lib.hid hO8.gridV
  obtain ⟨va8, vc8, hv8⟩ := hO8.ex
  replace hv8 : v8 = .slice va8 2 vc8 := hv8
  subst hv8
  have hB8 := bthen (bthen hB6 hb7) hb8
  have HE8 := Lib.hid (HO6.out.keep (prs_row lims_int _ _) (bthen hb7 hb8))
  clear hr hO8
  obtain ⟨ea, ec, hee, -, hev⟩ := HE8.out.view
  replace hee : (Value.slice va6 2 vc6) = .slice ea 2 ec := hee
  cases hee
  obtain ⟨eb, eo, eu, rfl, e0, er⟩ := hev 0 (by decide)
  obtain ⟨eb2, eo2, eu2, ee2, e1, er2⟩ := hev 1 (by decide)
  cases ee2
  obtain ⟨sa, sc, rfl, -⟩ := er
  obtain ⟨ta, tc, rfl, -⟩ := er2
  replace e0 : w8.cell? ⟨eb, eo, none⟩ = some (.slice sa 0 sc) := e0
  replace e1 : w8.cell? ⟨eb, eo + 1, none⟩ = some (.slice ta 0 tc) := e1
  have HS := Lib.hid (show ∀ W, Below w8.heap.size w8 W → W.cell? ⟨eb, eo, none⟩ = some (.slice sa 0 sc) ∧ W.cell? ⟨eb, eo + 1, none⟩ = some (.slice ta 0 tc) from fun W h => ⟨bkeep h e0, bkeep h e1⟩)
  have hBc := Below.refl w8.heap.size w8
  clear hev
  go_wp2
  go_region_held3 (fun w' => w'.cell? ⟨eb, eo, none⟩ = some (.slice sa 0 sc) ∧ w'.cell? ⟨eb, eo + 1, none⟩ = some (.slice ta 0 tc))
    (first | (refine HS.out _ ?_; (repeat (first | exact Below.refl _ _ | exact hBc | refine Below.drew ?_ | refine below_drewN ?_ _ | refine bset ?_ (by simp <;> omega) _ | refine bal ?_ _)); done) | fail)
    (first
      | (go_at_call 15; (with_reducible refine (refs_c _ [[0, 0], [4, 5]] _ (GridI.drew (gridLit22 _ 0 0 4 5 _ _ _ ?_ ?_ ?_ ?_)) ?_ ?_).mono ?_); (unfold I64; omega); (unfold I64; omega); (unfold I64; omega); (unfold I64; omega); decide; decide; rintro e w9 ⟨v9, rfl, hO9⟩; have hBd : Below w8.heap.size w8 w9 := bthen (by repeat (first | exact Below.refl _ _ | exact hBc | refine Below.drew ?_ | refine below_drewN ?_ _ | refine bset ?_ (by simp <;> omega) _ | refine bal ?_ _)) hO9.bel; clear hBc; have hBc := hBd; have HO9 := Lib.hid hO9.blkV; obtain ⟨va9, vc9, hv9⟩ := hO9.ex; replace hv9 : _ = Value.slice va9 2 vc9 := hv9; subst hv9; clear hO9 hBd)
      | (go_at_call 15; (with_reducible refine (refs_c _ [[0, 0], [4, 5]] _ (GridI.drew (gridLit22' _ 0 0 4 5 _ _ _ ?_ ?_ ?_ ?_)) ?_ ?_).mono ?_); (unfold I64; omega); (unfold I64; omega); (unfold I64; omega); (unfold I64; omega); decide; decide; rintro e w9 ⟨v9, rfl, hO9⟩; have hBd : Below w8.heap.size w8 w9 := bthen (by repeat (first | exact Below.refl _ _ | exact hBc | refine Below.drew ?_ | refine below_drewN ?_ _ | refine bset ?_ (by simp <;> omega) _ | refine bal ?_ _)) hO9.bel; clear hBc; have hBc := hBd; have HO9 := Lib.hid hO9.blkV; obtain ⟨va9, vc9, hv9⟩ := hO9.ex; replace hv9 : _ = Value.slice va9 2 vc9 := hv9; subst hv9; clear hO9 hBd)
      | (go_at_call 14; refine (blocks_c _ _ [[0, 0], [4, 5]] 64 _ (HO8.out.keep (prs_row lims_int _ _) hBc) HO9.out (bdL (by decide)) (by omega) (by decide) (fun j hj => by have h2 : j < 2 := hj; rcases (show j = 0 ∨ j = 1 by omega) with rfl | rfl <;> simp)).mono ?_; rintro e w10 ⟨rfl, hb10⟩; have hBd : Below w8.heap.size w8 w10 := bthen hBc hb10; clear hBc; have hBc := hBd; clear hBd)
      | fail)
  all_goals
    have hB10 := bthen hB8 hBc
    go_wp2_with fail
    refine (example_c _).mono ?_
    rintro e w11 ⟨a11, b11, rfl, hi11, ho11, hb11⟩
    have hB11 : Below w.heap.size w w11 := bthen hB10 hb11
    have HI11 := Lib.hid (And.intro hi11 ho11)
    clear hi11 ho11
    have hBw11 := Below.refl w11.heap.size w11
    go_wp2_with fail
    refine (lists_c _ [[7, 5], [3, 2]] _ (gridLit22 _ 7 5 3 2 _ _ _ (by unfold I64; omega) (by unfold I64; omega) (by unfold I64; omega) (by unfold I64; omega)) (by decide) (by decide)).mono ?_
    rintro e w12 ⟨v12, rfl, hO12⟩
    have hbx12 : Below w11.heap.size w11 w12 := bthen (by repeat (first | exact Below.refl _ _ | exact hBw11 | refine Below.drew ?_ | refine below_drewN ?_ _ | refine bset ?_ (by simp <;> omega) _ | refine bal ?_ _)) hO12.bel
    have HO12 := Lib.hid hO12
    obtain ⟨va12, vc12, hv12⟩ := hO12.ex
    replace hv12 : v12 = .slice va12 2 vc12 := hv12
    subst hv12
    clear hO12
    go_wp2_with fail
    refine (new_c 2 3 (some a11) (some b11) 2 2 exCode exOuts _ [[7, 5], [3, 2]] _ (HI11.out.1.keep hbx12) (HI11.out.2.keep hbx12) (fun e => by cases e) (fun e => by cases e) HO12.out.gridV (by decide) (by decide) (by decide)).mono ?_
    rintro e w13 hr
    obtain ⟨⟨b, rb, rc, rfl, hM⟩, hb13⟩ := newk hr
    have HM := Lib.hid hM
    have hB13 := bthen (bthen hB11 hbx12) hb13
    have hbase : w.heap.size ≤ w12.heap.size := (bthen hB11 hbx12).size
    have hBw13 := Below.refl w13.heap.size w13
    clear hr hM
    go_wp2_with fail
    refine (step_c (m := 2) (k := 64) _ (HM.out.keep hBw13) (by decide) (by decide) (insOk_of (by decide) (by decide)) (fun k hk => by have h2 : k < 3 := hk; rcases (show k = 0 ∨ k = 1 ∨ k = 2 by omega) with rfl | rfl | rfl <;> rfl) (by omega) (bdL (by decide)) (by omega) (HT.out.keep hB13)).mono ?_
    rintro e w14 hs
    obtain ⟨rfl, hM14, hO14⟩ := stepk1 hs
    have hB14 := out_below hB13 hO14 (fun q hq => by
      have h1 := hM14.lo
      have h2 := hM14.rlo
      rcases hq with rfl | rfl <;> omega)
    have HM14 := Lib.hid hM14
    have hBw14 := Below.refl w14.heap.size w14
    clear hs hM14 hO14
    have sx := fun W (q : Below w14.heap.size w14 W) => (step_c (m := 2) (k := 64) W (HM14.out.keep q) (by decide) (by decide) (insOk_of (by decide) (by decide)) (fun k hk => by have h2 : k < 3 := hk; rcases (show k = 0 ∨ k = 1 ∨ k = 2 by omega) with rfl | rfl | rfl <;> rfl) (by omega) (bdL (by decide)) (by omega) (HT.out.keep (bthen hB14 q))).mono fun e w' h => stepk2 h
    have nx := fun W (q : Below w14.heap.size w14 W) => next_c W (HM14.out.keep q)
    have dx := fun W (q : Below w14.heap.size w14 W) => done_c W (HM14.out.keep q)
    rw [show doneB 1 exCode.length = false by decide] at dx
    have r2 := fun W (q : Below w14.heap.size w14 W) => reg_c W 2 2 (HM14.out.keep q) (fun k hk => by have h2 : k < 3 := hk; rcases (show k = 0 ∨ k = 1 ∨ k = 2 by omega) with rfl | rfl | rfl <;> rfl) (by omega) (by decide) (by decide)
    have r3 := fun W (q : Below w14.heap.size w14 W) => reg_no W 3 (HM14.out.keep q) (.inr (by decide))
    have ox := fun W (q : Below w14.heap.size w14 W) => outs_no W (HM14.out.keep q) (by decide)
    go_wp2_with fail
    refine (sx _ hBw14).mono ?_
    rintro e w15 ⟨rfl, hb15⟩
    go_wp2_with fail
    refine (nx _ hb15).mono ?_
    rintro e w16 ⟨rfl, hb16⟩
    have q16 := bthen hb15 hb16
    go_wp2_with fail
    refine (dx _ q16).mono ?_
    rintro e w17 ⟨rfl, hb17⟩
    have q17 := bthen q16 hb17
    go_wp2_with fail
    refine ((show Calls Tryd.prog _ #[.pointer (some ⟨b, 0, none⟩), .int .i64 2] _ _ from r2 _ q17)).mono ?_
    rintro e w18 ⟨⟨v18, rfl, hr18⟩, hb18⟩
    have q18 := bthen q17 hb18
    have HR18 := Lib.hid hr18.row
    obtain ⟨va18, vc18, hv18⟩ := hr18.ex
    replace hv18 : v18 = .slice va18 2 vc18 := hv18
    subst hv18
    clear hr18
    go_wp2_with fail
    refine (ox _ q18).mono ?_
    rintro e w19 ⟨rfl, hb19⟩
    have q19 := bthen q18 hb19
    go_wp2_with fail
    refine (r3 _ q19).mono ?_
    rintro e w20 ⟨rfl, hb20⟩
    have q20 := bthen q19 hb20
    go_wp2_with fail
    refine (reg_nil _ 0).mono ?_
    rintro e w21 ⟨rfl, hb21⟩
    have q21 := bthen q20 hb21
    go_wp2_with fail
    refine (outs_nil _).mono ?_
    rintro e w22 ⟨rfl, hb22⟩
    have q22 := bthen q21 hb22
    have hBw22 := Below.refl w22.heap.size w22
    go_wp2_with fail
    refine (refs_c _ [[4, 3]] _ (gridLit2 _ _ rfl 4 3 _ _ (by unfold I64; omega) (by unfold I64; omega)) (by decide) (by decide)).mono ?_
    rintro e w23 ⟨v23, rfl, hO23⟩
    have hb23 : Below w22.heap.size w22 w23 := bthen (by repeat (first | exact Below.refl _ _ | exact hBw22 | refine Below.drew ?_ | refine below_drewN ?_ _ | refine bset ?_ (by simp <;> omega) _ | refine bal ?_ _)) hO23.bel
    have q23 := bthen q22 hb23
    have HV23 := Lib.hid hO23.blkV
    obtain ⟨ka, kc, hke, -, hkv⟩ := HV23.out.view
    replace hke : v23 = .slice ka 1 kc := hke
    subst hke
    obtain ⟨kb, ko, ku, rfl, k0, kr⟩ := hkv 0 (by decide)
    replace k0 : w23.cell? ⟨kb, ko, none⟩ = some ku := k0
    replace kr : RRow 0 w23 ku [4, 3] := kr
    have HKR := Lib.hid kr
    obtain ⟨ya, yc, hye, -⟩ := kr
    replace hye : ku = .slice ya 2 yc := hye
    subst hye
    clear hkv hO23
    go_wp2_with fail
    refine (block_c _ _ [4, 3] 64 _ ((HR18.out.rebase (Nat.zero_le _)).keep lims_int (bthen hb19 (bthen hb20 (bthen hb21 (bthen hb22 hb23))))) HKR.out (fun j => bdL (g := [[4, 3]]) (by decide) 0 j) (by omega) (by decide)).mono ?_
    rintro e w24 ⟨rfl, hb24⟩
    have q24 := bthen q23 hb24
    go_wp2_with fail
    refine (sx _ q24).mono ?_
    rintro e w25 ⟨rfl, hb25⟩
    have q25 := bthen q24 hb25
    go_wp2_with fail
    refine (step_nil _).mono ?_
    rintro e w26 ⟨rfl, hb26⟩
    have q26 := bthen q25 hb26
    go_wp2_with fail
    refine (next_nil _).mono ?_
    rintro e w27 ⟨rfl, hb27⟩
    have q27 := bthen q26 hb27
    go_wp2_with fail
    refine (done_nil _).mono ?_
    rintro e w28 ⟨rfl, hb28⟩
    have q28 := bthen q27 hb28
    go_wp2_with fail
    refine (copy_nil _).mono ?_
    rintro e w29 ⟨rfl, hb29⟩
    go_wp2
    go_ret
    exact ⟨rfl, bthen hB14 (bthen q28 hb29)⟩
end Go.Proofs.YtannhpadoooedaaDoor
