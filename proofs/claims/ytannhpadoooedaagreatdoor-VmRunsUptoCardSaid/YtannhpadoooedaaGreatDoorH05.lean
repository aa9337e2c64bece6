/- Texts of this seat, laid together: RvB, RvC. Each opens with its own remark, which says what it proves, and under which conditions. -/
import Derived.Test.YtannhpadoooedaaGreatDoorH04
import Derived.Test.YtannhpadoooedaaGreatDoorG35
import Derived.Test.YtannhpadoooedaaGreatDoorG28
import Derived.Test.YtannhpadoooedaaGreatDoorG36
set_option linter.unusedVariables false
set_option linter.unusedSimpArgs false
/- The reference's machine: Step. -/
namespace Go.Proofs.YtannhpadoooedaaGreatDoor
open Num
open Go.ChangeShapes Go.WideShapes Go.ChangeAt Go.RowKit
set_option linter.unusedVariables false
set_option linter.unusedSimpArgs false
attribute [local go_sem ↓] Go.wp_at_zero Go.wp_at_succ
theorem typ_new {w : World} {c : Array Value} {t : TypeId} {b : Nat} (h : b = w.heap.size) : typOf (w.alloc (.cells c t)) b = some t := by
  subst h; unfold typOf; rw [show (w.alloc (.cells c t)).heap[w.heap.size]? = _ from (MapKept.heap_alloc w _).1]
theorem mkBlk (n : Nat) (hn : n ≤ 1099511627776) (w : World) : (Instr.makeSlice 89 (.int .i64 (n : Int)) (.int .i64 (n : Int))).run Tryz.prog w = .ok (.slice (some ⟨w.heap.size, 0, none⟩) n n) (w.alloc (.cells (zcel n) 44)) := by
  obtain ⟨i0, hi, hz0, hz1, hz2⟩ := info_parts infoRef
  rw [run_make w _ _ i0 _ Tryz.underlying89 hi hz0 .i64 .i64 n n (by omega) (by omega) (by rw [hz2]; omega) (by omega), hz1]
  rfl
/-- the reference's registers in a block that may be written -/
structure RegsR (w : World) (rb : Nat) (g : Grid) : Prop where
  free : Free w rb
  ty : typOf w rb = some 89
  cell : ∀ k, k < g.length → ∃ u, w.cell? ⟨rb, k, none⟩ = some u ∧ RRow 0 w u (g.getD k [])
theorem RegsR.keep {rb : Nat} {w w' : World} {g : Grid} (h : RegsR w rb g) (k : Below w.heap.size w w') : RegsR w' rb g :=
  ⟨h.free.keep k, typ_keep h.ty k, fun j hj => by obtain ⟨u, hu, hr⟩ := h.cell j hj; exact ⟨u, bkeep k hu, hr.keep lims_ref k⟩⟩
/-- what the reference's Step answers -/
def RStep (R : Option (List Int)) (w : World) (e : Ending) (w' : World) : Prop :=
  (match R with
    | some r => ∃ v, e = .returned (.tuple #[v, .bool true]) ∧ RRow 0 w' v r
    | none => e = .returned (.tuple #[.slice none 0 0, .bool false])) ∧ Below w.heap.size w w'
theorem rstep_no {R : Option (List Int)} {w w' : World} (h : R = none) (hb : Below w.heap.size w w') : RStep R w (.returned (.tuple #[.slice none 0 0, .bool false])) w' := by
  subst h; exact ⟨rfl, hb⟩
theorem rstep_yes {R : Option (List Int)} {r : List Int} {v : Value} {w w' : World} (h : R = some r) (hv : RRow 0 w' v r) (hb : Below w.heap.size w w') : RStep R w (.returned (.tuple #[v, .bool true])) w' := by
  subst h; exact ⟨⟨v, rfl, hv⟩, hb⟩
set_option maxRecDepth 100000 in
set_option maxHeartbeats 16000000 in
theorem rstep_c (i : Ins) (rb rc : Nat) (g : Grid) (m k : Nat) (w : World) (h : RegsR w rb g) (hi : InsOk i g.length) (hr : Rect m g) (hm : m ≤ 4096) (hb : BdG k g) (hk : k ≤ 4294967296) (hrc : g.length ≤ rc) :
    Calls Tryz.prog 69 #[i.v, .slice (some ⟨rb, 0, none⟩) g.length rc] w (RStep (stepR i (g.getD i.a.toNat []) (g.getD i.b.toNat [])) w) := by
  have opc := fun va vb x y W h1 h2 h3 h4 => rop_c i k va vb x y W h1 h2 h3 h4 hk hi.o1 hi.o2 hi.c
  obtain ⟨o1, o2, t0, t1, a0, a1, b0, b1, hc⟩ := hi
  obtain ⟨op, it, ia, ib, ic⟩ := i
  dsimp only at t0 t1 a0 a1 b0 b1 ⊢
  obtain ⟨na, rfl⟩ : ∃ x : Nat, ia = x := ⟨ia.toNat, by omega⟩
  obtain ⟨nb, rfl⟩ : ∃ x : Nat, ib = x := ⟨ib.toNat, by omega⟩
  have a1' : na < g.length := by omega
  have b1' : nb < g.length := by omega
  clear t0 t1 a0 a1 b0 b1 o1 o2 hc
  obtain ⟨ua, ha1, ha2⟩ := h.cell na a1'
  obtain ⟨ub, hb1, hb2⟩ := h.cell nb b1'
  have HLA := Lib.hid (hr na a1')
  have HLB := Lib.hid (hr nb b1')
  have HBA := Lib.hid (hb.row na)
  have HBB := Lib.hid (hb.row nb)
  rw [Int.toNat_natCast, Int.toNat_natCast]
  obtain ⟨Ra, hRa⟩ : ∃ R, g.getD na [] = R := ⟨_, rfl⟩
  obtain ⟨Rb, hRb⟩ : ∃ R, g.getD nb [] = R := ⟨_, rfl⟩
  rw [hRa] at HLA HBA ha2 ⊢
  rw [hRb] at HLB HBB hb2 ⊢
  clear hRa hRb hr hb h
  obtain ⟨aa, xa, rfl, -, va⟩ := ha2.view
  obtain ⟨ab, xb, rfl, -, vb⟩ := hb2.view
  rw [HLA.out] at va ha1
  rw [HLB.out] at vb hb1
  have HVA := Lib.hid va
  have HVB := Lib.hid vb
  clear va vb ha2 hb2
  have hB := Below.refl w.heap.size w
  have hga : (na : Int) < (g.length : Int) := by omega
  have hgb : (nb : Int) < (g.length : Int) := by omega
  have hmk := mkBlk m (by omega)
  obtain ⟨gl, hgl⟩ : ∃ n, g.length = n := ⟨_, rfl⟩
  rw [hgl] at hga hgb hrc ⊢
  clear hgl
  unfold Ins.v at opc ⊢
  dsimp only at opc ⊢
  obtain ⟨f, hf⟩ : ∃ f : Nat → Int, f = fun j => (opI ⟨op, it, na, nb, ic⟩ (Ra.getD j 0) (Rb.getD j 0)).getD 0 := ⟨_, rfl⟩
  have HFF := Lib.hid hf
  clear hf
  have zrb := cell_lt ha1
  go_enter Tryz.func69, Tryz.ntmps69
  go_wp2
  refine wp_name fun w3 hW3 => ?_
  have hb3 : Below w.heap.size w w3 := by rw [hW3]; repeat (first | exact Below.refl _ _ | exact hB | refine Below.drew ?_ | refine below_drewN ?_ _ | refine bset ?_ (by simp <;> omega) _ | refine bal ?_ _)
  have hI3 : IntsF IsRef w3 (w.heap.size + 1) 0 m (upto f 0) := by rw [hW3, upto_zero]; exact zcel_ints isRef_zero _ m _ (by simp)
  have hF3 : Free w3 (w.heap.size + 1) := by rw [hW3]; exact Free.new (by simp)
  have hT3 : Hid (typOf w3 (w.heap.size + 1) = some 44) := Lib.hid (by rw [hW3]; exact typ_new (by simp))
  have i0 : w3.cell? ⟨w.heap.size, 0, none⟩ = some (.int .i64 op) := by rw [hW3]; exact cell_alloc (cell_new rfl rfl) _
  have i1 : w3.cell? ⟨w.heap.size, 1, none⟩ = some (.int .i64 it) := by rw [hW3]; exact cell_alloc (cell_new rfl rfl) _
  have i2 : w3.cell? ⟨w.heap.size, 2, none⟩ = some (.int .i64 na) := by rw [hW3]; exact cell_alloc (cell_new rfl rfl) _
  have i3 : w3.cell? ⟨w.heap.size, 3, none⟩ = some (.int .i64 nb) := by rw [hW3]; exact cell_alloc (cell_new rfl rfl) _
  have i4 : w3.cell? ⟨w.heap.size, 4, none⟩ = some (.int .i64 ic) := by rw [hW3]; exact cell_alloc (cell_new rfl rfl) _
  have HII := Lib.hid (show ∀ W, Below w3.heap.size w3 W → W.cell? ⟨w.heap.size, 0, none⟩ = some (.int .i64 op) ∧ W.cell? ⟨w.heap.size, 1, none⟩ = some (.int .i64 it) ∧ W.cell? ⟨w.heap.size, 2, none⟩ = some (.int .i64 na) ∧ W.cell? ⟨w.heap.size, 3, none⟩ = some (.int .i64 nb) ∧ W.cell? ⟨w.heap.size, 4, none⟩ = some (.int .i64 ic) from fun W h => ⟨bkeep h i0, bkeep h i1, bkeep h i2, bkeep h i3, bkeep h i4⟩)
  clear hW3 hmk i0 i1 i2 i3 i4
  have HG := Lib.hid (show ∀ W, Below w.heap.size w W → W.cell? ⟨rb, na, none⟩ = some (.slice aa m xa) ∧ W.cell? ⟨rb, nb, none⟩ = some (.slice ab m xb) from fun W h => ⟨bkeep h ha1, bkeep h hb1⟩)
  have hW3 : w.heap.size + 1 < w3.heap.size := hF3.1
  clear ha1 hb1 zrb
  go_loopw [7] (fun x wr => ∃ j : Nat, j ≤ m ∧ x = .int .i64 j ∧ Below w.heap.size w wr ∧ Hid (∀ W, Below wr.heap.size wr W → W.cell? ⟨w.heap.size, 0, none⟩ = some (.int .i64 op) ∧ W.cell? ⟨w.heap.size, 1, none⟩ = some (.int .i64 it) ∧ W.cell? ⟨w.heap.size, 2, none⟩ = some (.int .i64 na) ∧ W.cell? ⟨w.heap.size, 3, none⟩ = some (.int .i64 nb) ∧ W.cell? ⟨w.heap.size, 4, none⟩ = some (.int .i64 ic)) ∧ IntsF IsRef wr (w.heap.size + 1) 0 m (upto f j) ∧ Free wr (w.heap.size + 1) ∧ Hid (typOf wr (w.heap.size + 1) = some 44) ∧ Hid (∀ q, q < j → (opI ⟨op, it, na, nb, ic⟩ (Ra.getD q 0) (Rb.getD q 0)).isSome = true)) (fun x _ => m - (intOf x).toNat)
  case atStart => exact ⟨0, Nat.zero_le _, rfl, hb3, HII, hI3, hF3, hT3, Lib.hid (fun q hq => by omega)⟩
  case round =>
    clear hb3 hI3 hF3 hT3 HII hW3
    obtain ⟨j, hj, rfl, hBr, HIr, hIr, hFr, hTr, hall⟩ := hrel
    have HIR := Lib.hid (And.intro hIr hFr)
    have hbz : w.heap.size + 1 < wr.heap.size := hFr.1
    clear hIr hFr
    by_cases hlt : j < m
    · have hltI : (j : Int) < (m : Int) := by omega
      obtain ⟨ba, oa', n1, ad1, l1, cp1, rfl, ca1, ca2, hia⟩ := HVA.out j hlt
      obtain ⟨bb, ob', n2, ad2, l2, cp2, rfl, cb1, cb2, hib⟩ := HVB.out j hlt
      have fc := fun W (h : Below wr.heap.size wr W) => opc _ _ _ _ W (hia.keep (bthen hBr h)) (hib.keep (bthen hBr h)) (HBA.out j) (HBB.out j)
      have HS2 := Lib.hid (show ∀ W, Below wr.heap.size wr W → W.cell? ⟨w.heap.size, 0, none⟩ = some (.int .i64 op) ∧ W.cell? ⟨w.heap.size, 1, none⟩ = some (.int .i64 it) ∧ W.cell? ⟨w.heap.size, 2, none⟩ = some (.int .i64 na) ∧ W.cell? ⟨w.heap.size, 3, none⟩ = some (.int .i64 nb) ∧ W.cell? ⟨w.heap.size, 4, none⟩ = some (.int .i64 ic) ∧ W.cell? ⟨rb, na, none⟩ = some (.slice (some ⟨ba, oa', none⟩) m xa) ∧ W.cell? ⟨rb, nb, none⟩ = some (.slice (some ⟨bb, ob', none⟩) m xb) ∧ W.cell? ⟨ba, oa' + j * 2, none⟩ = some (.bool n1) ∧ W.cell? ⟨ba, oa' + j * 2 + 1, none⟩ = some (.slice ad1 l1 cp1) ∧ W.cell? ⟨bb, ob' + j * 2, none⟩ = some (.bool n2) ∧ W.cell? ⟨bb, ob' + j * 2 + 1, none⟩ = some (.slice ad2 l2 cp2) from fun W h => ⟨(HIr.out W h).1, (HIr.out W h).2.1, (HIr.out W h).2.2.1, (HIr.out W h).2.2.2.1, (HIr.out W h).2.2.2.2, (HG.out W (bthen hBr h)).1, (HG.out W (bthen hBr h)).2, bkeep (bthen hBr h) ca1, bkeep (bthen hBr h) ca2, bkeep (bthen hBr h) cb1, bkeep (bthen hBr h) cb2⟩)
      clear ca1 ca2 cb1 cb2 hia hib
      have hBw := Below.refl wr.heap.size wr
      obtain ⟨k0, k1, k2, k3, k4, k5, k6, x1, x2, x3, x4⟩ := HS2.out wr hBw
      have zk := cell_lt k5
      have zx1 := cell_lt x1
      have zx3 := cell_lt x3
      unfold AnsR at fc
      cases hz : opI ⟨op, it, na, nb, ic⟩ (Ra.getD j 0) (Rb.getD j 0) with
      | none =>
        rw [hz] at fc
        dsimp only at fc
        have HST := Lib.hid (stepR_fail (k := j) (by rw [HLA.out]; exact hlt) hz)
        clear hz opc
        go_wp2
        go_region_held3 (fun w' => w'.cell? ⟨w.heap.size, 0, none⟩ = some (.int .i64 op) ∧ w'.cell? ⟨w.heap.size, 1, none⟩ = some (.int .i64 it) ∧ w'.cell? ⟨w.heap.size, 2, none⟩ = some (.int .i64 na) ∧ w'.cell? ⟨w.heap.size, 3, none⟩ = some (.int .i64 nb) ∧ w'.cell? ⟨w.heap.size, 4, none⟩ = some (.int .i64 ic) ∧ w'.cell? ⟨rb, na, none⟩ = some (.slice (some ⟨ba, oa', none⟩) m xa) ∧ w'.cell? ⟨rb, nb, none⟩ = some (.slice (some ⟨bb, ob', none⟩) m xb) ∧ w'.cell? ⟨ba, oa' + j * 2, none⟩ = some (.bool n1) ∧ w'.cell? ⟨ba, oa' + j * 2 + 1, none⟩ = some (.slice ad1 l1 cp1) ∧ w'.cell? ⟨bb, ob' + j * 2, none⟩ = some (.bool n2) ∧ w'.cell? ⟨bb, ob' + j * 2 + 1, none⟩ = some (.slice ad2 l2 cp2))
          (first | (refine HS2.out _ ?_; (repeat (first | exact Below.refl _ _ | exact hBw | refine Below.drew ?_ | refine below_drewN ?_ _ | refine bset ?_ (by simp <;> omega) _ | refine bal ?_ _)); done) | (refine HS2.out _ ?_; (repeat (first | exact Below.refl _ _ | exact hB5 | refine Below.drew ?_ | refine below_drewN ?_ _ | refine bset ?_ (by simp <;> omega) _ | refine bal ?_ _)); done) | fail)
          (first
            | (go_at_call 113; (with_reducible show Calls _ _ _ (World.drew (World.alloc _ _)) _); refine (fc _ ?_).mono ?_; (repeat (first | exact Below.refl _ _ | exact hBw | refine Below.drew ?_ | refine below_drewN ?_ _ | refine bset ?_ (by simp <;> omega) _ | refine bal ?_ _)); rintro e w5 ⟨rfl, hb5⟩; have hB5 : Below wr.heap.size wr w5 := bthen (by repeat (first | exact Below.refl _ _ | exact hBw | refine Below.drew ?_ | refine below_drewN ?_ _ | refine bset ?_ (by simp <;> omega) _ | refine bal ?_ _)) hb5; obtain ⟨r0, r1, r0f, r1f⟩ := box2 hb5)
            | (go_at_call 113; refine (fc _ ?_).mono ?_; (repeat (first | exact Below.refl _ _ | exact hBw | refine Below.drew ?_ | refine below_drewN ?_ _ | refine bset ?_ (by simp <;> omega) _ | refine bal ?_ _)); rintro e w5 ⟨rfl, hb5⟩; have hB5 : Below wr.heap.size wr w5 := bthen (by repeat (first | exact Below.refl _ _ | exact hBw | refine Below.drew ?_ | refine below_drewN ?_ _ | refine bset ?_ (by simp <;> omega) _ | refine bal ?_ _)) hb5)
            | fail)
        all_goals
          go_wp2
          go_ret2
          refine rstep_no HST.out (bthen hBr ?_)
          repeat (first | exact hB5 | refine bset ?_ (Nat.le_refl _) _ | refine bal ?_ _)
      | some z =>
        rw [hz] at fc
        dsimp only at fc
        have HZ := Lib.hid hz
        clear hz opc
        go_wp2
        go_region_held3 (fun w' => w'.cell? ⟨w.heap.size, 0, none⟩ = some (.int .i64 op) ∧ w'.cell? ⟨w.heap.size, 1, none⟩ = some (.int .i64 it) ∧ w'.cell? ⟨w.heap.size, 2, none⟩ = some (.int .i64 na) ∧ w'.cell? ⟨w.heap.size, 3, none⟩ = some (.int .i64 nb) ∧ w'.cell? ⟨w.heap.size, 4, none⟩ = some (.int .i64 ic) ∧ w'.cell? ⟨rb, na, none⟩ = some (.slice (some ⟨ba, oa', none⟩) m xa) ∧ w'.cell? ⟨rb, nb, none⟩ = some (.slice (some ⟨bb, ob', none⟩) m xb) ∧ w'.cell? ⟨ba, oa' + j * 2, none⟩ = some (.bool n1) ∧ w'.cell? ⟨ba, oa' + j * 2 + 1, none⟩ = some (.slice ad1 l1 cp1) ∧ w'.cell? ⟨bb, ob' + j * 2, none⟩ = some (.bool n2) ∧ w'.cell? ⟨bb, ob' + j * 2 + 1, none⟩ = some (.slice ad2 l2 cp2))
          (first | (refine HS2.out _ ?_; (repeat (first | exact Below.refl _ _ | exact hBw | refine Below.drew ?_ | refine below_drewN ?_ _ | refine bset ?_ (by simp <;> omega) _ | refine bal ?_ _)); done) | (refine HS2.out _ ?_; (repeat (first | exact Below.refl _ _ | exact hB5 | refine Below.drew ?_ | refine below_drewN ?_ _ | refine bset ?_ (by simp <;> omega) _ | refine bal ?_ _)); done) | fail)
          (first
            | (go_at_call 113; (with_reducible show Calls _ _ _ (World.drew (World.alloc _ _)) _); refine (fc _ ?_).mono ?_; (repeat (first | exact Below.refl _ _ | exact hBw | refine Below.drew ?_ | refine below_drewN ?_ _ | refine bset ?_ (by simp <;> omega) _ | refine bal ?_ _)); rintro e w5 ⟨⟨v, rfl, hv⟩, hb5⟩; have hB5 : Below wr.heap.size wr w5 := bthen (by repeat (first | exact Below.refl _ _ | exact hBw | refine Below.drew ?_ | refine below_drewN ?_ _ | refine bset ?_ (by simp <;> omega) _ | refine bal ?_ _)) hb5; have HV := Lib.hid hv; obtain ⟨n5, a5, c5, l5, rfl, -⟩ := hv; obtain ⟨r0, r1, r0f, r1f⟩ := box2 hb5; unfold iv at *)
            | (go_at_call 113; refine (fc _ ?_).mono ?_; (repeat (first | exact Below.refl _ _ | exact hBw | refine Below.drew ?_ | refine below_drewN ?_ _ | refine bset ?_ (by simp <;> omega) _ | refine bal ?_ _)); rintro e w5 ⟨⟨v, rfl, hv⟩, hb5⟩; have hB5 : Below wr.heap.size wr w5 := bthen (by repeat (first | exact Below.refl _ _ | exact hBw | refine Below.drew ?_ | refine below_drewN ?_ _ | refine bset ?_ (by simp <;> omega) _ | refine bal ?_ _)) hb5; have HV := Lib.hid hv; obtain ⟨n5, a5, c5, l5, rfl, -⟩ := hv; unfold iv at *)
            | fail)
        ·
          go_upto_region 6 with (fail)
          refine wp_name fun w6 hW6 => ?_
          have hB6 : Below wr.heap.size wr w6 := by rw [hW6]; exact bal hB5 _
          have p0 : w6.cell? ⟨w5.heap.size, 0, none⟩ = some (.bool n5) := by rw [hW6]; exact cell_new rfl rfl
          have p1 : w6.cell? ⟨w5.heap.size, 1, none⟩ = some (.slice a5 l5.length c5) := by rw [hW6]; exact cell_new rfl rfl
          have HV6 : Hid (IsRef w6 (.agg #[.bool n5, .slice a5 l5.length c5]) z) := Lib.hid (by rw [hW6]; exact HV.out.keep (bal (Below.refl _ _) _))
          clear hW6
          have hI6 := HIR.out.1.keep lims_ref hB6
          have hF6 := HIR.out.2.keep hB6
          obtain ⟨nx, ax, lx, cx, o0, o1, -⟩ := hI6.at0 hlt
          have of0 := hF6.2 (j * 2)
          have of1 := hF6.2 (j * 2 + 1)
          have HI6 := Lib.hid (IntsF.store0 lims_ref hI6 hlt HV6.out)
          have HF6 := Lib.hid hF6
          have HT6 := Lib.hid (typ_keep hTr.out hB6)
          clear hI6 hF6
          have hb6z := hB6.size
          have zo := cell_lt o0
          have zx := cell_lt p0
          have HU := Lib.hid (upto_succ f j z (by rw [HFF.out]; dsimp only; rw [HZ.out]; rfl))
          have HN := Lib.hid (show ∀ q, q < j + 1 → (opI ⟨op, it, na, nb, ic⟩ (Ra.getD q 0) (Rb.getD q 0)).isSome = true from fun q hq => by
            by_cases e : q = j
            · subst e; rw [HZ.out]; rfl
            · exact hall.out q (by omega))
          go_wp2
          refine ⟨⟨j + 1, by omega, by go_num, bset (bset (bthen hBr hB6) (by simp) _) (by simp) _, Lib.hid (fun W h => ?_), ?_, (HF6.out.set _ _).set _ _, Lib.hid (by rw [typ_set, typ_set]; exact HT6.out), HN⟩, by simp [intOf]; omega⟩
          · obtain ⟨k0, k1, k2, k3, k4⟩ := HIr.out _ hB6
            exact ⟨bkeep h (cell_far (cell_far k0 (by simp) _) (by simp) _), bkeep h (cell_far (cell_far k1 (by simp) _) (by simp) _), bkeep h (cell_far (cell_far k2 (by simp) _) (by simp) _), bkeep h (cell_far (cell_far k3 (by simp) _) (by simp) _), bkeep h (cell_far (cell_far k4 (by simp) _) (by simp) _)⟩
          · rw [← HU.out]; exact HI6.out
        ·
          go_upto_region 6 with (fail)
          refine wp_name fun w6 hW6 => ?_
          have hB6 : Below wr.heap.size wr w6 := by rw [hW6]; exact bset (bset hB5 (Nat.le_refl _) _) (Nat.le_refl _) _
          have p0 : w6.cell? ⟨wr.heap.size, 0, none⟩ = some (.bool n5) := by rw [hW6]; exact cell_far (cell_here r0 _) (by simp) _
          have p1 : w6.cell? ⟨wr.heap.size, 1, none⟩ = some (.slice a5 l5.length c5) := by rw [hW6]; exact cell_here (cell_far r1 (by simp) _) _
          have HV6 : Hid (IsRef w6 (.agg #[.bool n5, .slice a5 l5.length c5]) z) := Lib.hid (by rw [hW6]; exact HV.out.put2 r0 r1 _ _)
          clear hW6
          have hI6 := HIR.out.1.keep lims_ref hB6
          have hF6 := HIR.out.2.keep hB6
          obtain ⟨nx, ax, lx, cx, o0, o1, -⟩ := hI6.at0 hlt
          have of0 := hF6.2 (j * 2)
          have of1 := hF6.2 (j * 2 + 1)
          have HI6 := Lib.hid (IntsF.store0 lims_ref hI6 hlt HV6.out)
          have HF6 := Lib.hid hF6
          have HT6 := Lib.hid (typ_keep hTr.out hB6)
          clear hI6 hF6
          have hb6z := hB6.size
          have zo := cell_lt o0
          have zx := cell_lt p0
          have HU := Lib.hid (upto_succ f j z (by rw [HFF.out]; dsimp only; rw [HZ.out]; rfl))
          have HN := Lib.hid (show ∀ q, q < j + 1 → (opI ⟨op, it, na, nb, ic⟩ (Ra.getD q 0) (Rb.getD q 0)).isSome = true from fun q hq => by
            by_cases e : q = j
            · subst e; rw [HZ.out]; rfl
            · exact hall.out q (by omega))
          go_wp2
          refine ⟨⟨j + 1, by omega, by go_num, bset (bset (bthen hBr hB6) (by simp) _) (by simp) _, Lib.hid (fun W h => ?_), ?_, (HF6.out.set _ _).set _ _, Lib.hid (by rw [typ_set, typ_set]; exact HT6.out), HN⟩, by simp [intOf]; omega⟩
          · obtain ⟨k0, k1, k2, k3, k4⟩ := HIr.out _ hB6
            exact ⟨bkeep h (cell_far (cell_far k0 (by simp) _) (by simp) _), bkeep h (cell_far (cell_far k1 (by simp) _) (by simp) _), bkeep h (cell_far (cell_far k2 (by simp) _) (by simp) _), bkeep h (cell_far (cell_far k3 (by simp) _) (by simp) _), bkeep h (cell_far (cell_far k4 (by simp) _) (by simp) _)⟩
          · rw [← HU.out]; exact HI6.out
    · obtain rfl : j = m := by omega
      have HST := Lib.hid (show stepR ⟨op, it, na, nb, ic⟩ Ra Rb = some ((List.range j).map f) from stepR_ext (by simp [HLA.out]) (fun q hq => by
        rw [HLA.out] at hq
        obtain ⟨z, hz⟩ := Option.isSome_iff_exists.1 (hall.out q hq)
        rw [hz, HFF.out]; simp [hq]; simp at hz; rw [hz]; rfl))
      have HROW : Hid (RRow 0 wr (.slice (some ⟨w.heap.size + 1, 0, none⟩) j j) ((List.range j).map f)) := Lib.hid (by
        refine ⟨some ⟨w.heap.size + 1, 0, none⟩, j, by simp, by simp, by unfold maxLen; omega, .inr ⟨w.heap.size + 1, 0, rfl, Nat.zero_le _, hTr.out, ?_⟩⟩
        rw [List.length_map, List.length_range]
        exact HIR.out.1.congr fun q hq => by simp [upto, hq])
      clear hall hTr HIr opc
      go_wp2
      go_ret2
      exact rstep_yes HST.out HROW.out hBr
end Go.Proofs.YtannhpadoooedaaGreatDoor
/- The reference's machine: Fits, Start, Outs. -/
namespace Go.Proofs.YtannhpadoooedaaGreatDoor
open Num
open Go.ChangeShapes Go.WideShapes Go.ChangeAt Go.RowKit
set_option linter.unusedVariables false
set_option linter.unusedSimpArgs false
attribute [local go_sem ↓] Go.wp_at_zero Go.wp_at_succ
abbrev GridR (w : World) (v : Value) (g : Grid) : Prop := IsL 89 (RRow 0) 0 w v g
set_option maxRecDepth 100000 in
set_option maxHeartbeats 4000000 in
theorem rfits_c (ins regs : Int) (ca oa : Option Addr) (cl cc ol oc : Nat) (vg : Value) (g : Grid) (w : World) (hg : GridR w vg g) (hgl : g.length ≤ 4398046511104) :
    Calls Tryz.prog 68 #[.agg #[.int .i64 ins, .int .i64 regs, .slice ca cl cc, .slice oa ol oc], vg] w fun e w' => ∃ b, e = .returned (.bool b) ∧ (b = true ↔ FitsG ins g) ∧ Below w.heap.size w w' := by
  obtain ⟨ga, gc, rfl, hgc, hv⟩ := hg.view
  have HV := Lib.hid hv
  clear hg hv
  have hB := Below.refl w.heap.size w
  go_enter Tryz.func68, Tryz.ntmps68
  go_wp2
  refine wp_name fun w0 hW0 => ?_
  have p0 : w0.cell? ⟨w.heap.size, 0, none⟩ = some (.int .i64 ins) := by rw [hW0]; exact (by first | assumption | exact cell_new (by with_reducible first | rfl | (simp; done) | (simp; omega)) rfl | (repeat (first | assumption | exact cell_new (by with_reducible first | rfl | (simp; done) | (simp; omega)) rfl | refine cell_alloc ?_ _ | refine cell_drew ?_ | refine cell_drewN ?_ _ | refine cell_far ?_ (by simp) _ | (refine cell_far ?_ (by simp <;> omega) _))) | simp [go_sem, *])
  have zp0 := cell_lt p0
  have hB : Below w.heap.size w w0 := by rw [hW0]; repeat (first | exact Below.refl _ _ | exact hB | refine Below.drew ?_ | refine below_drewN ?_ _ | refine bset ?_ (by simp <;> omega) _ | refine bal ?_ _)
  have hz : w.heap.size ≤ w0.heap.size := hB.size
  clear hW0
  go_loopw [5] (fun x wr => ∃ k : Nat, k ≤ g.length ∧ x = .int .i64 k ∧ Below w0.heap.size w0 wr ∧ Hid (∀ j (hj : j < g.length), j < k → g[j].length = (g.getD 0 []).length ∧ (g.getD 0 []).length ≤ 4096)) (fun x _ => g.length - (intOf x).toNat)
  case atStart => exact ⟨0, Nat.zero_le _, rfl, Below.refl _ _, Lib.hid (fun j _ hj => by omega)⟩
  case round =>
    obtain ⟨k, hk, rfl, hBr, hall⟩ := hrel
    have p0 := bkeep hBr p0
    by_cases hlt : k < g.length
    · obtain ⟨gb, go, u, rfl, hu, hrow⟩ := HV.out k hlt
      obtain ⟨gb2, go2, u0, hge, hu0, hrow0⟩ := HV.out 0 (by omega)
      cases hge
      obtain ⟨ar, xr, rfl, -⟩ := hrow
      obtain ⟨ar0, xr0, rfl, -⟩ := hrow0
      rw [Nat.add_zero] at hu0
      replace hu := bkeep (bthen hB hBr) hu
      replace hu0 := bkeep (bthen hB hBr) hu0
      have hltI : (k : Int) < (g.length : Int) := by omega
      have h0I : (0 : Int) < (g.length : Int) := by omega
      have HR0 := Lib.hid (show (g.getD 0 []).length = (g[0]'(by omega)).length by simp [show 0 < g.length by omega])
      obtain ⟨lk, hlk⟩ : ∃ n, (g[k]'hlt).length = n := ⟨_, rfl⟩
      obtain ⟨m, hm⟩ : ∃ n, (g[0]'(by omega)).length = n := ⟨_, rfl⟩
      rw [hlk] at hu
      rw [hm] at hu0
      have HLK := Lib.hid (And.intro hlk hm)
      clear hlk hm
      by_cases e1 : lk = m
      · subst e1
        by_cases e2 : lk ≤ 4096
        · have hq1 : ((lk : Int) != (lk : Int)) = false := by simp
          have hq2 : decide ((4096 : Int) < (lk : Int)) = false := by simp; omega
          have HAL := Lib.hid (show ∀ j (hj : j < g.length), j < k + 1 → g[j].length = (g.getD 0 []).length ∧ (g.getD 0 []).length ≤ 4096 from fun j hj hjk => by
            by_cases e : j = k
            · subst e; rw [HR0.out, HLK.out.1, HLK.out.2]; exact ⟨rfl, e2⟩
            · exact hall.out j hj (by omega))
          go_wp2
          go_quiet (fail)
          go_wp2
          exact ⟨⟨k + 1, by omega, by go_num, by repeat (first | exact Below.refl _ _ | exact hBr | refine Below.drew ?_ | refine below_drewN ?_ _ | refine bset ?_ (by simp <;> omega) _ | refine bal ?_ _), HAL⟩, by simp [intOf]; omega⟩
        · have hq1 : ((lk : Int) != (lk : Int)) = false := by simp
          have hq2 : decide ((4096 : Int) < (lk : Int)) = true := by simp; omega
          have HNF := Lib.hid (show ¬ FitsG ins g from fun f => by
            have h5 := f.m
            rw [HR0.out, HLK.out.2] at h5; omega)
          go_wp2
          go_quiet (fail)
          go_wp2
          go_ret
          exact ⟨_, rfl, ⟨(fun h => by cases h), fun h => absurd h HNF.out⟩, bthen hB (by repeat (first | exact Below.refl _ _ | exact hBr | refine Below.drew ?_ | refine below_drewN ?_ _ | refine bset ?_ (by simp <;> omega) _ | refine bal ?_ _))⟩
      · have hq1 : ((lk : Int) != (m : Int)) = true := by simp; omega
        have HNF := Lib.hid (show ¬ FitsG ins g from fun f => by
          have h5 := f.rect k hlt
          rw [HR0.out, HLK.out.2, show g.getD k [] = g[k] by simp [hlt], HLK.out.1] at h5; omega)
        go_wp2
        go_quiet (fail)
        go_wp2
        go_ret
        exact ⟨_, rfl, ⟨(fun h => by cases h), fun h => absurd h HNF.out⟩, bthen hB (by repeat (first | exact Below.refl _ _ | exact hBr | refine Below.drew ?_ | refine below_drewN ?_ _ | refine bset ?_ (by simp <;> omega) _ | refine bal ?_ _))⟩
    · obtain rfl : k = g.length := by omega
      have HF := Lib.hid (show (g.length : Int) = ins → FitsG ins g from fun h => ⟨h, fun j hj => by
        rw [show g.getD j [] = g[j] by simp [hj]]; exact (hall.out j hj hj).1, by
        by_cases h0 : 0 < g.length
        · exact (hall.out 0 h0 h0).2
        · rw [List.getD_eq_getElem?_getD, List.getElem?_eq_none (by omega)]; simp⟩)
      by_cases e : (g.length : Int) = ins
      · have HY := Lib.hid (HF.out e)
        have hq : ((g.length : Int) == ins) = true := by simp; exact e
        clear hall
        go_wp2
        go_ret
        exact ⟨_, rfl, ⟨fun _ => HY.out, fun _ => by first | rfl | exact hq | simp [hq]⟩, bthen hB hBr⟩
      · have hq : ((g.length : Int) == ins) = false := by simp; exact e
        clear hall
        go_wp2
        go_ret
        exact ⟨_, rfl, ⟨(fun h => by first | (cases h; done) | (rw [hq] at h; cases h) | (simp at h; exact absurd h e)), fun h => absurd h.len e⟩, bthen hB hBr⟩
end Go.Proofs.YtannhpadoooedaaGreatDoor
