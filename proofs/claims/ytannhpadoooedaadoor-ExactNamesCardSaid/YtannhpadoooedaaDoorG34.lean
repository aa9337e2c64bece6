/- Texts of this seat, laid together: PrgE, PrgF. Each opens with its own remark, which says what it proves, and under which conditions. -/
import Derived.Test.YtannhpadoooedaaDoorG33
import Derived.Deep.RegionWith
/- slices.Clone at []Instr. -/
namespace Go.Proofs.YtannhpadoooedaaDoor
open Go.ChangeShapes Go.WideShapes Go.ChangeAt Go.RowKit
set_option linter.unusedVariables false
set_option linter.unusedSimpArgs false
def Ins.cel (i : Ins) : List Value := [.int .i64 i.op, .int .i64 i.to, .int .i64 i.a, .int .i64 i.b, .int .i64 i.c]
def pcel (L : List Ins) : List Value := L.flatMap Ins.cel
theorem pcel_len (L : List Ins) : (pcel L).length = L.length * 5 := by
  induction L with
  | nil => rfl
  | cons i L ih => simp only [pcel, List.flatMap_cons, List.length_append, List.length_cons] at ih ⊢; rw [ih]; simp [Ins.cel]; omega
theorem pcel_get (L : List Ins) : ∀ k r, k < L.length → r < 5 → (pcel L)[k * 5 + r]? = (Ins.cel (L.getD k default))[r]? := by
  induction L with
  | nil => intro k r hk; simp at hk
  | cons x L ih =>
    intro k r hk hr
    cases k with
    | zero =>
      have e : pcel (x :: L) = Ins.cel x ++ pcel L := rfl
      rw [e, Nat.zero_mul, Nat.zero_add, List.getElem?_append_left (by simp [Ins.cel]; omega)]; rfl
    | succ k =>
      have e : pcel (x :: L) = Ins.cel x ++ pcel L := rfl
      have h5 : (Ins.cel x).length = 5 := rfl
      rw [e, List.getElem?_append_right (by rw [h5]; omega), h5, show (k + 1) * 5 + r - 5 = k * 5 + r by omega, ih k r (by simpa using hk) hr]
      rfl
theorem pcel_one (L : List Ins) : ∀ v ∈ pcel L, v.oneCell' = true := by
  intro v hv
  simp only [pcel, List.mem_flatMap] at hv
  obtain ⟨x, _, hx⟩ := hv
  simp [Ins.cel] at hx
  rcases hx with rfl | rfl | rfl | rfl | rfl <;> rfl
theorem InsAt.at {w : World} {b off : Nat} {i : Ins} (h : InsAt w b off i) {r : Nat} (hr : r < 5) {u : Value} (hu : (Ins.cel i)[r]? = some u) : w.cell? ⟨b, off + r, none⟩ = some u := by
  have : r = 0 ∨ r = 1 ∨ r = 2 ∨ r = 3 ∨ r = 4 := by omega
  rcases this with rfl | rfl | rfl | rfl | rfl <;> (simp [Ins.cel] at hu; subst hu)
  · exact h.c0
  · exact h.c1
  · exact h.c2
  · exact h.c3
  · exact h.c4
theorem infoP : (Tryd.prog.info? 81).map (fun i => (i.zero, i.size, i.bytes)) = some (some (.agg #[.int .i64 0, .int .i64 0, .int .i64 0, .int .i64 0, .int .i64 0]), 5, 40) := by kernel_rfl
theorem elP : Elt Tryd.prog 22 81 5 40 := Elt.mk' Tryd.underlying22 infoP rfl (by decide) (by decide)
theorem own_ins {w : World} {base : Nat} {v : Value} {n : Nat} {L : List Ins} (h : w.ownsRow base 81 5 v n (pcel L)) : ∃ a c, v = .slice a L.length c ∧ InsV w a c L ∧ FromA base 81 w a := by
  have hn : L.length = n := by have := h.1; rw [pcel_len] at this; omega
  subst hn
  have h' := h
  rcases h.2 with ⟨rfl, h1⟩ | ⟨g, cap, cur, rfl, hb, hgg, hc, _⟩
  · exact ⟨none, 0, by rw [h1], .inl (List.length_eq_zero_iff.1 h1), FromA.nil _ _ _⟩
  · refine ⟨_, _, rfl, .inr ⟨g, 0, rfl, hc, fun k hk => ?_⟩, fun p e => by cases e; exact ⟨hb, by unfold typOf; rw [hgg]⟩⟩
    have key : ∀ r, r < 5 → w.cell? ⟨g, 0 + k * 5 + r, none⟩ = (Ins.cel (L.getD k default))[r]? := fun r hr => by
      rw [Nat.zero_add, World.ownsRow.cellAt h' (k * 5 + r) (by omega), pcel_get L k r hk hr]
    exact ⟨key 0 (by omega), key 1 (by omega), key 2 (by omega), key 3 (by omega), key 4 (by omega)⟩
set_option maxRecDepth 100000 in
set_option maxHeartbeats 1000000 in
theorem cloneIns_c (a : Option Addr) (ca : Nat) (L : List Ins) (w : World) (ha : InsV w a ca L) (hn : a = none → L = []) (h1 : L.length ≤ 1099511627776) :
    Calls Tryd.prog 65 #[.slice a L.length ca] w fun e w' => (∃ a' c', e = .returned (.slice a' L.length c') ∧ InsV w' a' c' L ∧ FromA w.heap.size 81 w' a') ∧ Below w.heap.size w w' := by
  have hB0 := Below.refl w.heap.size w
  have hq := fun w => Lib.run_eql_slice_nil w 22 81 a L.length ca 0 0 Tryd.underlying22
  cases a with
  | none =>
    obtain rfl : L = [] := hn rfl
    have hq2 : ∀ w, (binOp .eql 22 (.slice none 0 ca) (.slice none 0 0)).run Tryd.prog w = .ok (.bool true) w := hq
    clear hq
    go_enter Tryd.func65, Tryd.ntmps65
    go_wp2
    go_ret
    exact ⟨⟨none, 0, rfl, .inl rfl, FromA.nil _ _ _⟩, Below.refl _ _⟩
  | some ad =>
    obtain ⟨i0, z0, hi, hz0, hz1, hz2, hz3⟩ := elP.info
    have hnews : ∀ (W : World), Below w.heap.size w W → ∀ j u, (pcel L)[j]? = some u → W.cell? (ad.add j) = some u := by
      intro W hW j v hj
      have hjl : j < L.length * 5 := by have := (List.getElem?_eq_some_iff.1 hj).1; rwa [pcel_len] at this
      have hj2 : j = j / 5 * 5 + j % 5 := by omega
      rw [hj2, pcel_get L (j / 5) (j % 5) (by omega) (by omega)] at hj
      rcases ha with h | ⟨b, off, h, _, hcell⟩
      · subst h; simp at hjl
      · cases h
        have h3 := ((hcell (j / 5) (by omega)).keep hW).at (by omega) hj
        rw [show off + j / 5 * 5 + j % 5 = off + j by omega] at h3
        unfold Addr.add
        split
        · subst_vars; simpa using h3
        · exact h3
    clear ha
    have ho : (w.alloc (.cells #[] 81)).ownsRow w.heap.size 81 5 (.slice (some ⟨w.heap.size, 0, none⟩) 0 0) 0 [] := ⟨rfl, .inr ⟨w.heap.size, 0, #[], rfl, Nat.le_refl _, (MapKept.heap_alloc w _).1, Nat.le_refl _, by unfold maxLen; omega, rfl, rfl⟩⟩
    go_enter Tryd.func65, Tryd.ntmps65
    go_wp2_with (at_builtin; refine wpList_append_own _ rfl _ _ 22 rfl w.heap.size 81 i0 z0 5 40 Tryd.underlying22 hi hz0 hz1 hz2 hz3 (by decide) _ 0 [] rfl ho ad L.length ca (pcel L) rfl (pcel_len L) (hnews _ (bal hB0 _)) (pcel_one L) (by unfold maxLen; omega) (by omega) (by simp) ?_)
    intro v' w1 hown hgrow _
    have hbel := below_append (wr := w) (bal hB0 _) ho hgrow
    obtain ⟨a', c', rfl, hu, hfr⟩ := own_ins hown
    have HU := Lib.hid (And.intro hu hfr)
    clear hown hnews hq hgrow hu ho hfr
    go_wp2
    go_ret
    exact ⟨⟨a', c', rfl, HU.out.1, HU.out.2⟩, hbel⟩
end Go.Proofs.YtannhpadoooedaaDoor
/- prog: Copy. -/
namespace Go.Proofs.YtannhpadoooedaaDoor
open Go.ChangeShapes Go.WideShapes Go.ChangeAt Go.RowKit
set_option linter.unusedVariables false
set_option linter.unusedSimpArgs false
section
variable {w w0 : World} {a : Option Addr} {cap B C : Nat} {t : TypeId}
theorem InsV.far6 {L : List Ins} (h : InsV w a cap L) (hq : ∀ p, a = some p → p.block ≠ B ∧ p.block ≠ B + 1) (v0 v1 v2 v3 v4 v5 : Value) : InsV ((((((w.setCell ⟨B, 2, none⟩ v0).setCell ⟨B, 3, none⟩ v1).setCell ⟨B + 1, 0, none⟩ v2).setCell ⟨B + 1, 1, none⟩ v3).setCell ⟨B + 1, 2, none⟩ v4).setCell ⟨B + 1, 3, none⟩ v5) a cap L := by
  have h1 : ∀ p, a = some p → p.block ≠ B := fun p e => (hq p e).1
  have h2 : ∀ p, a = some p → p.block ≠ B + 1 := fun p e => (hq p e).2
  exact InsV.far (InsV.far (InsV.far (InsV.far (InsV.far (InsV.far h (q := ⟨B, 2, none⟩) h1 v0) (q := ⟨B, 3, none⟩) h1 v1) (q := ⟨B + 1, 0, none⟩) h2 v2) (q := ⟨B + 1, 1, none⟩) h2 v3) (q := ⟨B + 1, 2, none⟩) h2 v4) (q := ⟨B + 1, 3, none⟩) h2 v5
theorem IntsV.far6 {L : List Int} (h : IntsV w a cap L) (hq : ∀ p, a = some p → p.block ≠ B ∧ p.block ≠ B + 1) (v0 v1 v2 v3 v4 v5 : Value) : IntsV ((((((w.setCell ⟨B, 2, none⟩ v0).setCell ⟨B, 3, none⟩ v1).setCell ⟨B + 1, 0, none⟩ v2).setCell ⟨B + 1, 1, none⟩ v3).setCell ⟨B + 1, 2, none⟩ v4).setCell ⟨B + 1, 3, none⟩ v5) a cap L := by
  have h1 : ∀ p, a = some p → p.block ≠ B := fun p e => (hq p e).1
  have h2 : ∀ p, a = some p → p.block ≠ B + 1 := fun p e => (hq p e).2
  exact IntsV.far (IntsV.far (IntsV.far (IntsV.far (IntsV.far (IntsV.far h (q := ⟨B, 2, none⟩) h1 v0) (q := ⟨B, 3, none⟩) h1 v1) (q := ⟨B + 1, 0, none⟩) h2 v2) (q := ⟨B + 1, 1, none⟩) h2 v3) (q := ⟨B + 1, 2, none⟩) h2 v4) (q := ⟨B + 1, 3, none⟩) h2 v5
theorem FromA.far6 (h : FromA C t w a) (v0 v1 v2 v3 v4 v5 : Value) : FromA C t ((((((w.setCell ⟨B, 2, none⟩ v0).setCell ⟨B, 3, none⟩ v1).setCell ⟨B + 1, 0, none⟩ v2).setCell ⟨B + 1, 1, none⟩ v3).setCell ⟨B + 1, 2, none⟩ v4).setCell ⟨B + 1, 3, none⟩ v5) a := (((((h.set _ _).set _ _).set _ _).set _ _).set _ _).set _ _
theorem below_far6 (h : Below w0.heap.size w0 w) (hB : w0.heap.size ≤ B) (v0 v1 v2 v3 v4 v5 : Value) : Below w0.heap.size w0 ((((((w.setCell ⟨B, 2, none⟩ v0).setCell ⟨B, 3, none⟩ v1).setCell ⟨B + 1, 0, none⟩ v2).setCell ⟨B + 1, 1, none⟩ v3).setCell ⟨B + 1, 2, none⟩ v4).setCell ⟨B + 1, 3, none⟩ v5) :=
  bset (bset (bset (bset (bset (bset h (p := ⟨B, 2, none⟩) hB v0) (p := ⟨B, 3, none⟩) hB v1) (p := ⟨B + 1, 0, none⟩) (Nat.le_succ_of_le hB) v2) (p := ⟨B + 1, 1, none⟩) (Nat.le_succ_of_le hB) v3) (p := ⟨B + 1, 2, none⟩) (Nat.le_succ_of_le hB) v4) (p := ⟨B + 1, 3, none⟩) (Nat.le_succ_of_le hB) v5
end
set_option maxRecDepth 100000 in
set_option maxHeartbeats 4000000 in
theorem copy_c (ins regs : Int) (ca oa : Option Addr) (cc oc : Nat) (code : List Ins) (outs : List Int) (w : World) (hc : InsV w ca cc code) (ho : IntsV w oa oc outs) (hcn : ca = none → code = []) (hon : oa = none → outs = []) (h1 : code.length ≤ 1099511627776) (h2 : outs.length ≤ 1099511627776) :
    Calls Tryd.prog 41 #[.agg #[.int .i64 ins, .int .i64 regs, .slice ca code.length cc, .slice oa outs.length oc]] w fun e w' => (∃ ca' cc' oa' oc', e = .returned (.agg #[.int .i64 ins, .int .i64 regs, .slice ca' code.length cc', .slice oa' outs.length oc']) ∧ InsV w' ca' cc' code ∧ IntsV w' oa' oc' outs ∧ FromA w.heap.size 81 w' ca' ∧ FromA w.heap.size 3 w' oa') ∧ Below w.heap.size w w' := by
  have k1 := fun W (h : Below w.heap.size w W) => cloneIns_c ca cc code W (hc.keep h) hcn h1
  have k2 := fun W (h : Below w.heap.size w W) => cloneInts_c oa oc outs W (ho.keep h) hon h2
  have hB := Below.refl w.heap.size w
  go_enter Tryd.func41, Tryd.ntmps41
  go_wp2
  refine wp_name fun w0 hW0 => ?_
  have p0 : w0.cell? ⟨w.heap.size, 0, none⟩ = some (.int .i64 ins) := by rw [hW0]; exact (by first | assumption | exact cell_new (by with_reducible first | rfl | (simp; done) | (simp; omega)) rfl | (repeat (first | assumption | exact cell_new (by with_reducible first | rfl | (simp; done) | (simp; omega)) rfl | refine cell_alloc ?_ _ | refine cell_drew ?_ | refine cell_drewN ?_ _ | refine cell_far ?_ (by simp) _ | (refine cell_far ?_ (by simp <;> omega) _))) | simp [go_sem, *])
  have zp0 := cell_lt p0
  have p1 : w0.cell? ⟨w.heap.size, 1, none⟩ = some (.int .i64 regs) := by rw [hW0]; exact (by first | assumption | exact cell_new (by with_reducible first | rfl | (simp; done) | (simp; omega)) rfl | (repeat (first | assumption | exact cell_new (by with_reducible first | rfl | (simp; done) | (simp; omega)) rfl | refine cell_alloc ?_ _ | refine cell_drew ?_ | refine cell_drewN ?_ _ | refine cell_far ?_ (by simp) _ | (refine cell_far ?_ (by simp <;> omega) _))) | simp [go_sem, *])
  have p2f : w0.frozen? ⟨w.heap.size, 2, none⟩ = false := by rw [hW0]; simp [go_sem, *]
  have p2 : w0.cell? ⟨w.heap.size, 2, none⟩ = some (.slice ca code.length cc) := by rw [hW0]; exact (by first | assumption | exact cell_new (by with_reducible first | rfl | (simp; done) | (simp; omega)) rfl | (repeat (first | assumption | exact cell_new (by with_reducible first | rfl | (simp; done) | (simp; omega)) rfl | refine cell_alloc ?_ _ | refine cell_drew ?_ | refine cell_drewN ?_ _ | refine cell_far ?_ (by simp) _ | (refine cell_far ?_ (by simp <;> omega) _))) | simp [go_sem, *])
  have p3f : w0.frozen? ⟨w.heap.size, 3, none⟩ = false := by rw [hW0]; simp [go_sem, *]
  have p3 : w0.cell? ⟨w.heap.size, 3, none⟩ = some (.slice oa outs.length oc) := by rw [hW0]; exact (by first | assumption | exact cell_new (by with_reducible first | rfl | (simp; done) | (simp; omega)) rfl | (repeat (first | assumption | exact cell_new (by with_reducible first | rfl | (simp; done) | (simp; omega)) rfl | refine cell_alloc ?_ _ | refine cell_drew ?_ | refine cell_drewN ?_ _ | refine cell_far ?_ (by simp) _ | (refine cell_far ?_ (by simp <;> omega) _))) | simp [go_sem, *])
  have r0f : w0.frozen? ⟨w.heap.size + 1, 0, none⟩ = false := by rw [hW0]; simp [go_sem, *]
  have r0 : w0.cell? ⟨w.heap.size + 1, 0, none⟩ = some (.int .i64 0) := by rw [hW0]; exact (by first | assumption | exact cell_new (by with_reducible first | rfl | (simp; done) | (simp; omega)) rfl | (repeat (first | assumption | exact cell_new (by with_reducible first | rfl | (simp; done) | (simp; omega)) rfl | refine cell_alloc ?_ _ | refine cell_drew ?_ | refine cell_drewN ?_ _ | refine cell_far ?_ (by simp) _ | (refine cell_far ?_ (by simp <;> omega) _))) | simp [go_sem, *])
  have zr0 := cell_lt r0
  have r1f : w0.frozen? ⟨w.heap.size + 1, 1, none⟩ = false := by rw [hW0]; simp [go_sem, *]
  have r1 : w0.cell? ⟨w.heap.size + 1, 1, none⟩ = some (.int .i64 0) := by rw [hW0]; exact (by first | assumption | exact cell_new (by with_reducible first | rfl | (simp; done) | (simp; omega)) rfl | (repeat (first | assumption | exact cell_new (by with_reducible first | rfl | (simp; done) | (simp; omega)) rfl | refine cell_alloc ?_ _ | refine cell_drew ?_ | refine cell_drewN ?_ _ | refine cell_far ?_ (by simp) _ | (refine cell_far ?_ (by simp <;> omega) _))) | simp [go_sem, *])
  have r2f : w0.frozen? ⟨w.heap.size + 1, 2, none⟩ = false := by rw [hW0]; simp [go_sem, *]
  have r2 : w0.cell? ⟨w.heap.size + 1, 2, none⟩ = some (.slice none 0 0) := by rw [hW0]; exact (by first | assumption | exact cell_new (by with_reducible first | rfl | (simp; done) | (simp; omega)) rfl | (repeat (first | assumption | exact cell_new (by with_reducible first | rfl | (simp; done) | (simp; omega)) rfl | refine cell_alloc ?_ _ | refine cell_drew ?_ | refine cell_drewN ?_ _ | refine cell_far ?_ (by simp) _ | (refine cell_far ?_ (by simp <;> omega) _))) | simp [go_sem, *])
  have r3f : w0.frozen? ⟨w.heap.size + 1, 3, none⟩ = false := by rw [hW0]; simp [go_sem, *]
  have r3 : w0.cell? ⟨w.heap.size + 1, 3, none⟩ = some (.slice none 0 0) := by rw [hW0]; exact (by first | assumption | exact cell_new (by with_reducible first | rfl | (simp; done) | (simp; omega)) rfl | (repeat (first | assumption | exact cell_new (by with_reducible first | rfl | (simp; done) | (simp; omega)) rfl | refine cell_alloc ?_ _ | refine cell_drew ?_ | refine cell_drewN ?_ _ | refine cell_far ?_ (by simp) _ | (refine cell_far ?_ (by simp <;> omega) _))) | simp [go_sem, *])
  have hB : Below w.heap.size w w0 := by rw [hW0]; repeat (first | exact Below.refl _ _ | exact hB | refine Below.drew ?_ | refine below_drewN ?_ _ | refine bset ?_ (by simp <;> omega) _ | refine bal ?_ _)
  have hz : w.heap.size ≤ w0.heap.size := hB.size
  clear hW0
  go_region_with (first | (go_at_call 65; (with_reducible refine (k1 _ ?_).mono ?_); (repeat (first | exact Below.refl _ _ | assumption | refine Below.drew ?_ | refine bset ?_ (by simp) _ | refine bal ?_ _)); rintro e w3 ⟨⟨a3, c3, rfl, hv3, hf3⟩, hb3⟩; have hB3 : Below w.heap.size w w3 := bthen (by repeat (first | exact Below.refl _ _ | assumption | refine Below.drew ?_ | refine bset ?_ (by simp) _ | refine bal ?_ _)) hb3; have s0f := bkeepf hb3 (cell_drew r0) r0f; have s0 := bkeep hb3 (cell_drew r0); have s1f := bkeepf hb3 (cell_drew r1) r1f; have s1 := bkeep hb3 (cell_drew r1); have s2f := bkeepf hb3 (cell_drew r2) r2f; have s2 := bkeep hb3 (cell_drew r2); have s3f := bkeepf hb3 (cell_drew r3) r3f; have s3 := bkeep hb3 (cell_drew r3); have y0 := bkeep hb3 (cell_drew p0); have y1 := bkeep hb3 (cell_drew p1); have z2 : w3.cell? ⟨w.heap.size, 2, none⟩ = some (.slice ca code.length cc) := bkeep hb3 (cell_drew p2); have z3 : w3.cell? ⟨w.heap.size, 3, none⟩ = some (.slice oa outs.length oc) := bkeep hb3 (cell_drew p3); have zf2 : w3.frozen? ⟨w.heap.size, 2, none⟩ = false := bkeepf (v := .slice ca code.length cc) hb3 (cell_drew p2) p2f; have zf3 : w3.frozen? ⟨w.heap.size, 3, none⟩ = false := bkeepf (v := .slice oa outs.length oc) hb3 (cell_drew p3) p3f) | (go_at_call 66; (with_reducible refine (k2 _ ?_).mono ?_); assumption; rintro e w4 ⟨⟨a4, c4, rfl, hv4, hf4⟩, hb4⟩; have zf2 := bkeepf hb4 z2 zf2; have zf3 := bkeepf hb4 z3 zf3; have z2 := bkeep hb4 z2; have z3 := bkeep hb4 z3; have s0f := bkeepf hb4 s0 s0f; have s0 := bkeep hb4 s0; have s1f := bkeepf hb4 s1 s1f; have s1 := bkeep hb4 s1; have s2f := bkeepf hb4 s2 s2f; have s2 := bkeep hb4 s2; have s3f := bkeepf hb4 s3 s3f; have s3 := bkeep hb4 s3; have y0 := bkeep hb4 y0; have y1 := bkeep hb4 y1; have hv3 := hv3.keep hb4; have hf3 := hf3.keep hb4; have HZ := Lib.hid (And.intro hb3.size hb4.size); have hB4 : Below w.heap.size w w4 := bthen hB3 hb4))
  all_goals
    have x0 := cell_far (cell_far y0 (p := ⟨w.heap.size, 2, none⟩) (by simp) (.slice a3 code.length c3)) (p := ⟨w.heap.size, 3, none⟩) (by simp) (.slice a4 outs.length c4)
    have x1 := cell_far (cell_far y1 (p := ⟨w.heap.size, 2, none⟩) (by simp) (.slice a3 code.length c3)) (p := ⟨w.heap.size, 3, none⟩) (by simp) (.slice a4 outs.length c4)
    go_wp2
    have hz3 : w0.heap.size ≤ w3.heap.size ∧ w3.heap.size ≤ w4.heap.size := HZ.out
    have hf3 : FromA w0.heap.size 81 w4 a3 := hf3
    have n3 : ∀ p, a3 = some p → p.block ≠ w.heap.size ∧ p.block ≠ w.heap.size + 1 := fun p e => by have := (hf3 p e).1; omega
    have n4 : ∀ p, a4 = some p → p.block ≠ w.heap.size ∧ p.block ≠ w.heap.size + 1 := fun p e => by have := (hf4 p e).1; omega
    have N3 := Lib.hid n3
    have N4 := Lib.hid n4
    have HF := Lib.hid (And.intro hf3 hf4)
    have HV := Lib.hid (And.intro hv3 hv4)
    clear n3 n4 hf3 hf4 hv3 hv4 k1 k2 hc ho hcn hon
    refine bodyPost_ret (v := .agg #[.int .i64 ins, .int .i64 regs, .slice a3 code.length c3, .slice a4 outs.length c4]) (by simp [results, Tryd.results41, go_sem, *]) rfl ⟨⟨_, _, _, _, rfl, ?_, ?_, ?_, ?_⟩, ?_⟩
    · exact InsV.far6 HV.out.1 N3.out _ _ _ _ _ _
    · exact IntsV.far6 HV.out.2 N4.out _ _ _ _ _ _
    · exact FromA.far6 (HF.out.1.mono hz) _ _ _ _ _ _
    · exact FromA.far6 (HF.out.2.mono hB3.size) _ _ _ _ _ _
    · exact below_far6 hB4 (Nat.le_refl _) _ _ _ _ _ _
end Go.Proofs.YtannhpadoooedaaDoor
