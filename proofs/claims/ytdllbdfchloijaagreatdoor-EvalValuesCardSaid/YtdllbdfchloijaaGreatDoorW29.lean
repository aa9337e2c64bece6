/- EvalValues: of any coefficients, at any points, the values are told, or that they may not be asked. -/
import Derived.Test.YtdllbdfchloijaaGreatDoorW24
import Derived.Test.YtdllbdfchloijaaGreatDoorW28
import Derived.Test.YtdllbdfchloijaaGreatDoorW18
import Derived.Test.YtdllbdfchloijaaGreatDoorW16
set_option linter.unusedVariables false
set_option linter.unusedSimpArgs false
namespace Go.Proofs.YtdllbdfchloijaaGreatDoor
open Pt
open Num
open Go.ChangeShapes Go.WideShapes Go.ChangeAt Go.RowKit
set_option linter.unusedVariables false
set_option linter.unusedSimpArgs false
attribute [local go_sem ↓] Go.wp_at_zero Go.wp_at_succ
set_option maxRecDepth 100000 in
set_option maxHeartbeats 1000000 in
theorem clonePtsO_c (a : Option Addr) (ca n : Nat) (f : Nat → Int × Int) (w : World) (ha : PtsV w a n ca f) (hn : a = none → n = 0) (h1 : n * 16 ≤ 140737488355328) :
    Calls Tryz.prog 9 #[.slice a n ca] w fun e w' => (∃ v', e = .returned v' ∧ w'.ownsRow w.heap.size 33 2 v' n (pcells (upL f n))) ∧ Below w.heap.size w w' := by
  have hB0 := Below.refl w.heap.size w
  have hq := fun w => Lib.run_eql_slice_nil w 22 33 a n ca 0 0 Tryz.underlying22
  cases a with
  | none =>
    have HN := Lib.hid (hn rfl)
    clear hn
    have hq2 : ∀ w, (binOp .eql 22 (.slice none n ca) (.slice none 0 0)).run Tryz.prog w = .ok (.bool true) w := hq
    clear hq
    go_enter Tryz.func9, Tryz.ntmps9
    go_wp2
    go_ret
    obtain rfl : n = 0 := HN.out
    exact ⟨⟨_, rfl, World.ownsRow_nil _ _ _ _⟩, Below.refl _ _⟩
  | some ad =>
    obtain ⟨i0, z0, hi, hz0, hz1, hz2, hz3⟩ := elPt.info
    have hnews : ∀ (W : World), Below w.heap.size w W → ∀ j u, (pcells (upL f n))[j]? = some u → W.cell? (ad.add j) = some u := by
      intro W hW j v hj
      have hjl : j < n * 2 := by have := (List.getElem?_eq_some_iff.1 hj).1; rwa [pcells_len, upL_len] at this
      obtain ⟨g0, g1⟩ := pcells_get (upL f n) (j / 2) (by rw [upL_len]; omega)
      rw [upL_get f (by omega)] at g0 g1
      rcases ha with h | ⟨b, off, h, _, hcell⟩
      · subst h; simp at hjl
      · cases h
        obtain ⟨h3, h4⟩ := hcell (j / 2) (by omega)
        have e2 : (⟨b, off, none⟩ : Addr).add j = ⟨b, off + j, none⟩ := by unfold Addr.add; split <;> simp_all
        rw [e2]
        rcases (show j = j / 2 * 2 ∨ j = j / 2 * 2 + 1 by omega) with e | e
        · rw [e] at hj ⊢; rw [hj] at g0; cases g0
          exact bkeep hW h3
        · rw [e] at hj ⊢; rw [hj] at g1; cases g1
          exact bkeep hW h4
    clear ha
    have ho : (w.alloc (.cells #[] 33)).ownsRow w.heap.size 33 2 (.slice (some ⟨w.heap.size, 0, none⟩) 0 0) 0 [] := ⟨rfl, .inr ⟨w.heap.size, 0, #[], rfl, Nat.le_refl _, (MapKept.heap_alloc w _).1, Nat.le_refl _, by unfold maxLen; omega, rfl, rfl⟩⟩
    go_enter Tryz.func9, Tryz.ntmps9
    go_wp2_with (at_builtin; refine wpList_append_own _ rfl _ _ 22 rfl w.heap.size 33 i0 z0 2 16 Tryz.underlying22 hi hz0 hz1 hz2 hz3 (by decide) _ 0 [] rfl ho ad n ca (pcells (upL f n)) rfl (by rw [pcells_len, upL_len]) (hnews _ (bal hB0 _)) (pcells_one _) (by unfold maxLen; omega) (by omega) (by simp) ?_)
    intro v' w1 hown hgrow _
    have hbel := below_append (wr := w) (bal hB0 _) ho hgrow
    have HU := Lib.hid (show w1.ownsRow w.heap.size 33 2 v' n (pcells (upL f n)) from by simpa using hown)
    clear hown hnews hq hgrow ho
    go_wp2
    go_ret
    exact ⟨⟨v', rfl, HU.out⟩, hbel⟩
theorem pcells_up (f : Nat → Int × Int) (n : Nat) (p : Int × Int) : pcells (upL f n) ++ [.int .i64 p.1, .int .i64 p.2] = pcells (upL (fun i => if i = n then p else f i) (n + 1)) := by
  have h : upL (fun i => if i = n then p else f i) (n + 1) = upL f n ++ [p] := by
    unfold upL
    rw [List.range_succ, List.map_append]
    congr 1
    · refine List.map_congr_left fun i hi => ?_
      rw [if_neg (by have := List.mem_range.1 hi; omega)]
    · simp
  rw [h, pcells_app]; rfl
theorem PtsV.cut {w : World} {a : Option Addr} {n c : Nat} {f g : Nat → Int × Int} (h : PtsV w a (n + 1) c g) (he : ∀ i, i < n → g i = f i) : PtsV w a n c f := by
  rcases h with h | ⟨b, off, h1, h2, h3⟩
  · omega
  · exact .inr ⟨b, off, h1, by omega, fun k hk => by rw [← he k hk]; exact h3 k (by omega)⟩
theorem rpoints11_v (a : Option Addr) (n cap : Nat) (f : Nat → Int × Int) (b : Bool) (w : World) (h : PtsV w a n cap f) (hn : n ≤ 4611686018427387904) (hb : ptsB n f = b) :
    Calls Tryz.prog 17 #[.slice a n cap] w fun e w' => e = .returned (.bool b) ∧ Below w.heap.size w w' := by
  rw [← hb]; exact rpoints11_c a n cap f w h hn
theorem hvL_bd9 {l : List Int} {a b : Int} (h : PIn a b) (hl : l.length ≤ 16) (hb : ∀ j, Bd 64 (l.getD j 0)) : Bd 280 (hvL l a b) := by
  have := hvP_bd h hl hb l.length (Nat.le_refl _)
  rw [hvP_all] at this
  exact this.mono (by omega)
theorem z2new {w wn : World} {b : Bool} {a : Option Addr} {n c : Nat} {z : Int} {t : TypeId} {G : Prop} (hI : IsInt w (.agg #[.bool b, .slice a n c]) z) (hW : wn = w.alloc (.cells #[.bool b, .slice a n c] t)) (k : wn.cell? ⟨w.heap.size, 0, none⟩ = some (.bool b) → wn.cell? ⟨w.heap.size, 1, none⟩ = some (.slice a n c) → Hid (IsInt wn (.agg #[.bool b, .slice a n c]) z) → G) : G := by
  subst hW
  exact k (cell_new rfl rfl) (cell_new rfl rfl) (Lib.hid (hI.keep (bal (Below.refl _ _) _)))
theorem z2put {w wn : World} {X : Nat} {b b' : Bool} {a a' : Option Addr} {n c n' c' : Nat} {z : Int} {G : Prop} (hI : IsInt w (.agg #[.bool b, .slice a n c]) z) (h0 : w.cell? ⟨X, 0, none⟩ = some (.bool b')) (h1 : w.cell? ⟨X, 1, none⟩ = some (.slice a' n' c')) (hW : wn = (w.setCell ⟨X, 0, none⟩ (.bool b)).setCell ⟨X, 1, none⟩ (.slice a n c)) (k : wn.cell? ⟨X, 0, none⟩ = some (.bool b) → wn.cell? ⟨X, 1, none⟩ = some (.slice a n c) → Hid (IsInt wn (.agg #[.bool b, .slice a n c]) z) → G) : G := by
  subst hW
  exact k (cell_far (cell_here h0 _) (by simp) _) (cell_here (cell_far h1 (by simp) _) _) (Lib.hid (hI.put2 h0 h1 _ _))
theorem sgnZero9 (w : World) : Calls Tryz.prog 24 #[.agg #[.bool false, .slice none 0 0]] w fun e w' => e = .returned (.int .i64 0) ∧ Below w.heap.size w w' := sign_c _ 0 w (isInt_zero w)
theorem refIn9 (a b : Int) (v : Bool) (w : World) (hv : inB a b = v) : Calls Tryz.prog 23 #[pv a b] w fun e w' => e = .returned (.bool v) ∧ Below w.heap.size w w' := by rw [← hv]; exact refIn_c a b w
theorem min_ok {n cap : Nat} (h : n ≤ cap) : ∃ M : Nat, min (n : Int) 20 = (M : Int) ∧ M ≤ n ∧ (M : Int) ≤ (cap : Int) := by
  by_cases e : n ≤ 20
  · exact ⟨n, by omega, Nat.le_refl _, by omega⟩
  · exact ⟨20, by omega, by omega, by omega⟩
set_option maxRecDepth 100000 in
set_option maxHeartbeats 16000000 in
theorem evalValues_h (va : Value) (l : List Int) (a : Option Addr) (n cap : Nat) (f : Nat → Int × Int) (w : World) (hx : RowI w va l) (h : PtsV w a n cap f) (hm : n * 16 ≤ 140737488351232) (hT : Tz64 w) :
    Calls Tryz.prog 5 #[va, .slice a n cap] w fun e w' => e = .returned (.bool true) ∧ Below w.heap.size w w' := by
  have hB := Below.refl w.heap.size w
  have hBw := Below.refl w.heap.size w
  have HP := Lib.hid h
  have HXI := Lib.hid hx
  have HBI := Lib.hid (rowI_bdE hx)
  have HA := Lib.hid (show a = none → n = 0 from fun e => by
    rcases h with h | ⟨_, _, h1, _⟩
    · exact h
    · rw [e] at h1; cases h1)
  have HM := Lib.hid hm
  have hn : n ≤ 8796093022208 := by omega
  have HT := Lib.hid hT
  have WC := Lib.hid (fun V (q : Below w.heap.size w V) => works11_c V (HT.out.keep q))
  obtain ⟨xa, xc, rfl, -⟩ := hx
  obtain ⟨P, hP⟩ : ∃ P, l.length = P := ⟨_, rfl⟩
  have HLN := Lib.hid hP
  rw [hP] at HXI ⊢
  clear h hT hm hP
  by_cases c1 : 64 < P
  · have d1 : decide (64 < (P : Int)) = true := decide_eq_true (by omega)
    go_enter Tryz.func5, Tryz.ntmps5
    go_wp2_with fail
    (with_reducible refine (WC.out _ ?_).mono ?_); (repeat (first | exact Below.refl _ _ | exact hB | refine Below.drew ?_ | refine below_drewN ?_ _ | refine bset ?_ (by simp <;> omega) _ | refine bal ?_ _))
    rintro e w1 ⟨rfl, hb1⟩
    have hB1 : Below w.heap.size w w1 := bthen (by repeat (first | exact Below.refl _ _ | exact hB | refine Below.drew ?_ | refine below_drewN ?_ _ | refine bset ?_ (by simp <;> omega) _ | refine bal ?_ _)) hb1
    clear WC hb1 hB
    go_wp2
    go_ret
    exact ⟨rfl, by repeat (first | exact Below.refl _ _ | exact hB1 | refine Below.drew ?_ | refine below_drewN ?_ _ | refine bset ?_ (by simp <;> omega) _ | refine bal ?_ _)⟩
  have d1 : decide (64 < (P : Int)) = false := decide_eq_false (by omega)
  have hP64 : P ≤ 64 := by omega
  clear c1
  go_enter Tryz.func5, Tryz.ntmps5
  go_wp2_with fail
  (with_reducible refine (WC.out _ ?_).mono ?_); (repeat (first | exact Below.refl _ _ | exact hB | refine Below.drew ?_ | refine below_drewN ?_ _ | refine bset ?_ (by simp <;> omega) _ | refine bal ?_ _))
  rintro e w1 ⟨rfl, hb1⟩
  have hk : Below w.heap.size w w1 := bthen (by repeat (first | exact Below.refl _ _ | exact hBw | refine Below.drew ?_ | refine below_drewN ?_ _ | refine bset ?_ (by simp <;> omega) _ | refine bal ?_ _)) hb1
  clear hb1 WC hBw hB
  have hB := hk
  have hBw := Below.refl w1.heap.size w1
  clear hk
  have TC := Lib.hid (fun V (qB : Below w1.heap.size w1 V) => clonePtsO_c a cap n f V (HP.out.keep (bthen hB qB)) HA.out (by have := HM.out; omega))
  go_wp2_with fail
  (with_reducible refine (TC.out _ ?_).mono ?_); (repeat (first | exact Below.refl _ _ | exact hBw | refine Below.drew ?_ | refine below_drewN ?_ _ | refine bset ?_ (by simp <;> omega) _ | refine bal ?_ _))
  rintro e w2 ⟨⟨vc, rfl, hO⟩, hb2⟩
  have hk2 : Below w1.heap.size w1 w2 := bthen (by repeat (first | exact Below.refl _ _ | exact hBw | refine Below.drew ?_ | refine below_drewN ?_ _ | refine bset ?_ (by simp <;> omega) _ | refine bal ?_ _)) hb2
  have HO := Lib.hid hO
  have HB2 := Lib.hid (And.intro (bthen hB hk2) hk2)
  have HB1 := Lib.hid hB
  obtain ⟨i0, z0, hi, hz0, hz1, hz2, hz3⟩ := elPt.info
  clear TC hO hb2 hk2 hBw hB
  go_wp2_with (at_builtin; refine wpList_append_own _ rfl _ _ 22 rfl w1.heap.size 33 i0 z0 2 16 Tryz.underlying22 hi hz0 hz1 hz2 hz3 (by decide) _ n (pcells (upL f n)) rfl (HO.out.alloc _) ⟨w2.heap.size, 0, none⟩ 1 1 [.int .i64 99, .int .i64 0] rfl rfl (cells_new w2 _ _) (pcells_one [(99, 0)]) (by have := HM.out; unfold maxLen; omega) (by have := HM.out; omega) (by have := HB2.out.2.size; simp; omega) ?_)
  intro v' w3 hown hgrow _
  have hb13 : Below w1.heap.size w1 w3 := below_append (wr := w1) (bal HB2.out.2 _) (HO.out.alloc _) hgrow
  have hk3 : Below w1.heap.size w1 w3 := hb13
  have hown' : w3.ownsRow w1.heap.size 33 2 v' (n + 1) (pcells (upL (fun i => if i = n then ((99 : Int), (0 : Int)) else f i) (n + 1))) := by rw [← pcells_up f n (99, 0)]; exact hown
  obtain ⟨a', c', rfl, hnc, hpt, -, hfr⟩ := own_pts hown' rfl
  rcases hfr with hfr | ⟨b', rfl, hfree⟩
  · omega
  have HI := Lib.hid (show PtsV w3 (some ⟨b', 0, none⟩) n c' f from hpt.cut (fun i hi => by rw [if_neg (by omega)]))
  have hncI : (n : Int) ≤ (c' : Int) := by omega
  have hB := bthen HB1.out hb13
  have hBw := Below.refl w3.heap.size w3
  clear hown hown' hgrow hpt hfree hb13 hk3 HO HB2 hi hz0 hz1 hz2 hz3
  have TC := Lib.hid (fun V (qB : Below w3.heap.size w3 V) => list11_c (.slice xa P xc) l V (HXI.out.keep (bthen hB qB)) (by rw [HLN.out]; omega))
  go_wp2_with fail
  (with_reducible refine (TC.out _ ?_).mono ?_); (repeat (first | exact Below.refl _ _ | exact hBw | refine Below.drew ?_ | refine below_drewN ?_ _ | refine bset ?_ (by simp <;> omega) _ | refine bal ?_ _))
  rintro e w4 ⟨⟨vx, rfl, hvx⟩, hb4⟩
  have hk : Below w3.heap.size w3 w4 := bthen (by repeat (first | exact Below.refl _ _ | exact hBw | refine Below.drew ?_ | refine below_drewN ?_ _ | refine bset ?_ (by simp <;> omega) _ | refine bal ?_ _)) hb4
  have hBn := bthen hB hk
  clear TC hBw hB hb4
  have hB := hBn
  clear hBn
  have hBw := Below.refl w4.heap.size w4
  have HX := Lib.hid (show PRow 0 w4 vx l from hvx.row.rebase (Nat.zero_le _))
  obtain ⟨ya, yc, rfl⟩ := hvx.ex
  rw [HLN.out] at HX ⊢
  have HI4 := Lib.hid (HI.out.keep hk)
  clear hvx hk HI
  have HB4 := Lib.hid hB
  obtain ⟨M, hM, hMn, hMc⟩ := min_ok (n := n) (cap := cap) (by
    rcases HP.out with h | ⟨_, _, _, h, _⟩
    · omega
    · exact h)
  by_cases c2 : 1 ≤ P ∧ P ≤ 16 ∧ PtsOk n f
  · have e1 : decide (1 ≤ (P : Int)) = true := decide_eq_true (by omega)
    have e2 : decide ((P : Int) ≤ 16) = true := decide_eq_true (by omega)
    have HOK := Lib.hid c2.2.2
    have hp1 : 1 ≤ P := c2.1
    have hp16 : P ≤ 16 := c2.2.1
    clear c2
    have TC := Lib.hid (fun V (qB : Below w4.heap.size w4 V) => values_c (.slice ya P yc) l 64 (some ⟨b', 0, none⟩) n c' f V (IsRow.keep lims_int HX.out qB) (by rw [HLN.out]; exact hp1) (by rw [HLN.out]; exact hp16) (HI4.out.keep qB) HOK.out HBI.out (by decide))
    go_wp2_with fail
    (with_reducible refine (TC.out _ ?_).mono ?_); (repeat (first | exact Below.refl _ _ | exact hBw | refine Below.drew ?_ | refine below_drewN ?_ _ | refine bset ?_ (by simp <;> omega) _ | refine bal ?_ _))
    rintro e w5 ⟨⟨vv, rfl, hvv⟩, hb5⟩
    have hk : Below w4.heap.size w4 w5 := bthen (by repeat (first | exact Below.refl _ _ | exact hBw | refine Below.drew ?_ | refine below_drewN ?_ _ | refine bset ?_ (by simp <;> omega) _ | refine bal ?_ _)) hb5
    have hBn := bthen hB hk
    clear TC hBw hB hb5
    have hB := hBn
    clear hBn
    have hBw := Below.refl w5.heap.size w5
    have HV := Lib.hid (show PRow 0 w5 vv (valsL l n f) from hvv.row.rebase (Nat.zero_le _))
    obtain ⟨za, zc, rfl⟩ := hvv.ex
    have HVL := Lib.hid (valsL_len l n f)
    rw [HVL.out] at HV ⊢
    have HI5 := Lib.hid (HI4.out.keep hk)
    have hk5 := hk
    clear hvv hk HX
    have H45 := Lib.hid hk5
    have TC := Lib.hid (fun V (qB : Below w5.heap.size w5 V) => rpoints11_v a n cap f true V (HP.out.keep (bthen hB qB)) (by omega) ((ptsB_iff n f).2 HOK.out))
    go_wp2_with fail
    (with_reducible refine (TC.out _ ?_).mono ?_); (repeat (first | exact Below.refl _ _ | exact hBw | refine Below.drew ?_ | refine below_drewN ?_ _ | refine bset ?_ (by simp <;> omega) _ | refine bal ?_ _))
    rintro e w6 ⟨rfl, hb6⟩
    have hk : Below w5.heap.size w5 w6 := bthen (by repeat (first | exact Below.refl _ _ | exact hBw | refine Below.drew ?_ | refine below_drewN ?_ _ | refine bset ?_ (by simp <;> omega) _ | refine bal ?_ _)) hb6
    have hBn := bthen hB hk
    clear TC hBw hB hb6
    have hB := hBn
    clear hBn
    have hBw := Below.refl w6.heap.size w6
    have HI6 := Lib.hid (HI5.out.keep hk)
    have HV6 := Lib.hid (IsRow.keep lims_int HV.out hk)
    have hB46 := Lib.hid (bthen H45.out hk)
    clear hk HI5 HV hk5 H45
    have HB6 := Lib.hid hB
    clear hB
    have hnn : n ≤ 15 := HOK.out.2.1
    go_wp2
    go_loopw [58] (fun x wr => ∃ j : Nat, j ≤ n ∧ x = .int .i64 j ∧ Below w6.heap.size w6 wr) (fun x _ => n - (intOf x).toNat)
    case atStart => exact ⟨0, Nat.zero_le _, rfl, by repeat (first | exact Below.refl _ _ | exact hBw | refine Below.drew ?_ | refine below_drewN ?_ _ | refine bset ?_ (by simp <;> omega) _ | refine bal ?_ _)⟩
    case round =>
      obtain ⟨j, hj, rfl, hBr⟩ := hrel
      clear hBw
      by_cases hlt : j < n
      · have hltI : (j : Int) < (n : Int) := by omega
        obtain ⟨_, _, ez, -, vr⟩ := (IsRow.keep lims_int HV6.out hBr).view
        obtain ⟨rfl, -, rfl⟩ := Value.slice.inj ez
        obtain ⟨b3, off3, xn, xd, xl, xk, rfl, x0, x1, hxi⟩ := vr j (by rw [HVL.out]; exact hlt)
        rw [valsL_at hlt] at hxi
        obtain ⟨b4, off4, rfl, -, c0, c1⟩ := (HP.out.keep (bthen HB6.out hBr)).atE hlt
        have HPN := Lib.hid (show PIn (f j).1 (f j).2 from HOK.out.2.2 j hlt)
        obtain ⟨pa, hpa⟩ : ∃ x, (f j).1 = x := ⟨_, rfl⟩
        obtain ⟨pb, hpb⟩ : ∃ x, (f j).2 = x := ⟨_, rfl⟩
        rw [hpa] at c0 HPN hxi
        rw [hpb] at c1 HPN hxi
        have HXV := Lib.hid hxi
        have HBV := Lib.hid (hvL_bd9 HPN.out (by rw [HLN.out]; exact hp16) HBI.out)
        have hl := hlt
        have zx := cell_lt x0
        have zc := cell_lt c0
        have TX := Lib.hid (fun V (q : Below wr.heap.size wr V) => intText_c (.agg #[.bool xn, .slice xd xl xk]) (hvL l pa pb) 280 V (HXV.out.keep q) HBV.out (by decide))
        have RF := Lib.hid (fun V (q : Below wr.heap.size wr V) => ref11_c (.slice xa P xc) l V (HXI.out.keep (bthen (bthen HB6.out hBr) q)) (by rw [HLN.out]; omega))
        have VL := Lib.hid (fun u V (hu : RRow 0 V u l) => rvalue_c u l 64 pa pb V hu (by rw [HLN.out]; exact hp16) HPN.out HBI.out (by decide))
        have TY := Lib.hid (fun u V (hu : IsRef V u (hvL l pa pb)) => rtext_c u (hvL l pa pb) 280 V hu HBV.out (by decide))
        have HS := Lib.hid (show ∀ V, Below wr.heap.size wr V → V.cell? ⟨b3, off3 + j * 2, none⟩ = some (.bool xn) ∧ V.cell? ⟨b3, off3 + j * 2 + 1, none⟩ = some (.slice xd xl xk) ∧ V.cell? ⟨b4, off4 + j * 2, none⟩ = some (.int .i64 pa) ∧ V.cell? ⟨b4, off4 + j * 2 + 1, none⟩ = some (.int .i64 pb) from fun V q => ⟨bkeep q x0, bkeep q x1, bkeep q c0, bkeep q c1⟩)
        have hBw := Below.refl wr.heap.size wr
        clear hpa hpb vr ez hxi hlt
        go_wp2
        go_region_held3 (fun V => V.cell? ⟨b3, off3 + j * 2, none⟩ = some (.bool xn) ∧ V.cell? ⟨b3, off3 + j * 2 + 1, none⟩ = some (.slice xd xl xk) ∧ V.cell? ⟨b4, off4 + j * 2, none⟩ = some (.int .i64 pa) ∧ V.cell? ⟨b4, off4 + j * 2 + 1, none⟩ = some (.int .i64 pb))
          (first | (refine HS.out _ ?_; (repeat (first | exact Below.refl _ _ | exact hBw | refine Below.drew ?_ | refine below_drewN ?_ _ | refine bset ?_ (by simp <;> omega) _ | refine bal ?_ _)); done) | fail)
          (first
            | (go_at_call 18; refine (TX.out _ ?_).mono ?_; (repeat (first | exact Below.refl _ _ | exact hBw | refine Below.drew ?_ | refine below_drewN ?_ _ | refine bset ?_ (by simp <;> omega) _ | refine bal ?_ _)); rintro e w7 ⟨rfl, hb7⟩; (have hBd : Below wr.heap.size wr w7 := bthen (by repeat (first | exact Below.refl _ _ | exact hBw | refine Below.drew ?_ | refine below_drewN ?_ _ | refine bset ?_ (by simp <;> omega) _ | refine bal ?_ _)) hb7; clear hBw; have hBw := hBd; clear hBd))
            | (go_at_call 21; refine (RF.out _ ?_).mono ?_; (repeat (first | exact Below.refl _ _ | exact hBw | refine Below.drew ?_ | refine below_drewN ?_ _ | refine bset ?_ (by simp <;> omega) _ | refine bal ?_ _)); rintro e w8 ⟨⟨v8, rfl, hv8⟩, hb8⟩; (have hBd : Below wr.heap.size wr w8 := bthen (by repeat (first | exact Below.refl _ _ | exact hBw | refine Below.drew ?_ | refine below_drewN ?_ _ | refine bset ?_ (by simp <;> omega) _ | refine bal ?_ _)) hb8; clear hBw; have hBw := hBd; clear hBd); have HV8 := Lib.hid (show RRow 0 w8 v8 l from hv8.row.rebase (Nat.zero_le _)); have hy8 := Below.refl w8.heap.size w8; obtain ⟨r8, q8, rfl⟩ := hv8.ex)
            | (go_at_call 20; refine (VL.out _ _ (HV8.out.keep lims_ref ?_)).mono ?_; (repeat (first | exact Below.refl _ _ | exact hy8 | refine Below.drew ?_ | refine below_drewN ?_ _ | refine bset ?_ (by simp <;> omega) _ | refine bal ?_ _)); rintro e w9 ⟨⟨v9, rfl, hv9⟩, hb9⟩; (have hBd : Below wr.heap.size wr w9 := bthen (by repeat (first | exact Below.refl _ _ | exact hBw | refine Below.drew ?_ | refine below_drewN ?_ _ | refine bset ?_ (by simp <;> omega) _ | refine bal ?_ _)) hb9; clear hBw; have hBw := hBd; clear hBd); have HV9 := Lib.hid hv9; have hy9 := Below.refl w9.heap.size w9; obtain ⟨n9, a9, c9, l9, rfl, -⟩ := hv9; unfold iv at *)
            | (go_at_call 19; refine (TY.out _ _ (HV9.out.keep ?_)).mono ?_; (repeat (first | exact Below.refl _ _ | exact hy9 | refine Below.drew ?_ | refine below_drewN ?_ _ | refine bset ?_ (by simp <;> omega) _ | refine bal ?_ _)); rintro e w10 ⟨rfl, hb10⟩; (have hBd : Below wr.heap.size wr w10 := bthen (by repeat (first | exact Below.refl _ _ | exact hBw | refine Below.drew ?_ | refine below_drewN ?_ _ | refine bset ?_ (by simp <;> omega) _ | refine bal ?_ _)) hb10; clear hBw; have hBw := hBd; clear hBd))
            | fail)
        all_goals
          have hB2 := bthen hBr hBw
          clear TX RF VL TY HS
          go_wp2
          exact ⟨⟨j + 1, hl, by go_num, by repeat (first | exact Below.refl _ _ | exact hB2 | refine Below.drew ?_ | refine below_drewN ?_ _ | refine bset ?_ (by simp <;> omega) _ | refine bal ?_ _)⟩, measS hl (by go_num) rfl⟩
      · obtain rfl : n = j := by omega
        have hltI : ¬ (n : Int) < (n : Int) := by omega
        have hB := bthen HB6.out hBr
        have HI7 := Lib.hid (HI6.out.keep hBr)
        have hB4 : Below w4.heap.size w4 wr := bthen hB46.out hBr
        clear HI6 HI7 HV6 HB6 HVL hBr hj hlt
        go_wp2
        go_loopw [88] (fun x wz => ∃ j : Nat, j ≤ M ∧ x = .int .i64 j ∧ Below w4.heap.size w4 wz) (fun x _ => M - (intOf x).toNat)
        case atStart => exact ⟨0, Nat.zero_le _, rfl, by repeat (first | exact Below.refl _ _ | exact hB4 | refine Below.drew ?_ | refine below_drewN ?_ _ | refine bset ?_ (by simp <;> omega) _ | refine bal ?_ _)⟩
        case round =>
          obtain ⟨j, hj, rfl, hBz⟩ := hrel
          rename World => wz
          clear hB4
          by_cases hlt : j < M
          · have hltI : (j : Int) < (M : Int) := by omega
            obtain ⟨b5, off5, rfl, -, c0, c1⟩ := (HP.out.keep (bthen HB4.out hBz)).atE (i := j) (by omega)
            obtain ⟨pa, hpa⟩ : ∃ x, (f j).1 = x := ⟨_, rfl⟩
            obtain ⟨pb, hpb⟩ : ∃ x, (f j).2 = x := ⟨_, rfl⟩
            rw [hpa] at c0
            rw [hpb] at c1
            have zc := cell_lt c0
            have hBw := Below.refl wz.heap.size wz
            clear hpa hpb
            go_upto_region 22 with (fail)
            refine wp_name fun wy hWy => ?_
            have hky : Below wz.heap.size wz wy := by rw [hWy]; repeat (first | exact Below.refl _ _ | exact hBw | refine Below.drew ?_ | refine below_drewN ?_ _ | refine bset ?_ (by simp <;> omega) _ | refine bal ?_ _)
            have t0 : wy.cell? ⟨wz.heap.size, 0, none⟩ = some (.int .i64 pa) := by rw [hWy]; simp [go_sem]
            have t1 : wy.cell? ⟨wz.heap.size, 1, none⟩ = some (.int .i64 pb) := by rw [hWy]; simp [go_sem]
            have hBy := bthen hBz hky
            have LX := Lib.hid (fun V (q : Below wy.heap.size wy V) => list11_c (.slice xa P xc) l V (HXI.out.keep (bthen (bthen HB4.out hBy) q)) (by rw [HLN.out]; omega))
            have HS := Lib.hid (show ∀ V, Below wy.heap.size wy V → V.cell? ⟨wz.heap.size, 0, none⟩ = some (.int .i64 pa) ∧ V.cell? ⟨wz.heap.size, 1, none⟩ = some (.int .i64 pb) from fun V q => ⟨bkeep q t0, bkeep q t1⟩)
            have zt := cell_lt t0
            have hl := hlt
            clear hWy hBw hBz hky c0 c1 hlt
            have hBw := Below.refl wy.heap.size wy
            by_cases hpi : PIn pa pb
            rotate_left
            · have HNP := Lib.hid (show ¬ (1 ≤ l.length ∧ l.length ≤ 16 ∧ PIn pa pb) from fun q => hpi q.2.2)
              have VC := Lib.hid (fun v V (hv : PRow 0 V v l) => value_no v l pa pb V hv HNP.out)
              have SC := Lib.hid sgnZero9
              have IC := Lib.hid (fun V => refIn9 pa pb false V (inB_no hpi))
              clear hpi
              go_region_law (go_simp; go_wp2_with (first
                | (go_at_call 16; refine (LX.out _ ?_).mono ?_; (repeat (first | exact Below.refl _ _ | exact hBw | refine Below.drew ?_ | refine below_drewN ?_ _ | refine bset ?_ (by simp <;> omega) _ | refine bal ?_ _)); rintro e w7 ⟨⟨v7, rfl, hv7⟩, hb7⟩; (have hBd : Below wy.heap.size wy w7 := bthen (by repeat (first | exact Below.refl _ _ | exact hBw | refine Below.drew ?_ | refine below_drewN ?_ _ | refine bset ?_ (by simp <;> omega) _ | refine bal ?_ _)) hb7; clear hBw; have hBw := hBd; clear hBd); obtain ⟨t0, t1⟩ := HS.out w7 hBw; have zt7 := cell_lt t0; have HV7 := Lib.hid (show PRow 0 w7 v7 l from hv7.row.rebase (Nat.zero_le _)); have hy7 := Below.refl w7.heap.size w7; obtain ⟨r7, q7, rfl⟩ := hv7.ex; clear hv7; have hc7 := (bcell hb7).1; have hf7 := (bcell hb7).2; have hs7 := hb7.size; (try simp [go_sem] at hs7); (try have qa : wy.heap.size < w7.heap.size := by omega))
                | (go_at_call 22; refine (VC.out _ _ (IsRow.keep lims_int HV7.out ?_)).mono ?_; (repeat (first | exact Below.refl _ _ | exact hy7 | refine Below.drew ?_ | refine below_drewN ?_ _ | refine bset ?_ (by simp <;> omega) _ | refine bal ?_ _)); rintro e w8 ⟨rfl, hb8⟩; (have hBd : Below wy.heap.size wy w8 := bthen (by repeat (first | exact Below.refl _ _ | exact hBw | refine Below.drew ?_ | refine below_drewN ?_ _ | refine bset ?_ (by simp <;> omega) _ | refine bal ?_ _)) hb8; clear hBw; have hBw := hBd; clear hBd); obtain ⟨t0, t1⟩ := HS.out w8 hBw; have zt8 := cell_lt t0; have hc8 := (bcell hb8).1; have hf8 := (bcell hb8).2; have hs8 := hb8.size; (try simp [go_sem] at hs8); (try have qa : wy.heap.size < w8.heap.size := by omega); skip)
                | fail))
              all_goals
                clear LX VC
                go_upto_region 23 with (fail)
                refine wp_name fun wn hWn => ?_
                have hBn : Below wy.heap.size wy wn := by rw [hWn]; repeat (first | exact Below.refl _ _ | exact hBw | refine Below.drew ?_ | refine below_drewN ?_ _ | refine bset ?_ (by simp <;> omega) _ | refine bal ?_ _)
                first
                  | (refine z2new (isInt_zero w8) hWn (fun z0 z1 HZ => ?_); generalize w8.heap.size = X at z0 z1 ⊢)
                  | (refine z2put (isInt_zero w8) (bkeep hb8 (cell_new rfl rfl)) (bkeep hb8 (cell_new rfl rfl)) hWn (fun z0 z1 HZ => ?_); generalize w7.heap.size = X at z0 z1 ⊢)
                  | (refine z2put (isInt_zero w8) (bkeep hb8 (cell_drew (cell_new rfl rfl))) (bkeep hb8 (cell_drew (cell_new rfl rfl))) hWn (fun z0 z1 HZ => ?_); generalize w7.heap.size = X at z0 z1 ⊢)
                  | (refine z2put (isInt_zero w8) (bkeep hb8 (bkeep hb7 (cell_new rfl rfl))) (bkeep hb8 (bkeep hb7 (cell_new rfl rfl))) hWn (fun z0 z1 HZ => ?_); generalize wy.heap.size = X at z0 z1 ⊢)
                  | (refine z2put (isInt_zero w8) (bkeep hb8 (cell_drew (bkeep hb7 (cell_new rfl rfl)))) (bkeep hb8 (cell_drew (bkeep hb7 (cell_new rfl rfl)))) hWn (fun z0 z1 HZ => ?_); generalize wy.heap.size = X at z0 z1 ⊢)
                  | (refine z2put (isInt_zero w8) (bkeep hb8 (bkeep hb7 (cell_drew (cell_new rfl rfl)))) (bkeep hb8 (bkeep hb7 (cell_drew (cell_new rfl rfl)))) hWn (fun z0 z1 HZ => ?_); generalize wy.heap.size = X at z0 z1 ⊢)
                  | (refine z2put (isInt_zero w8) (bkeep hb8 (cell_drew (bkeep hb7 (cell_drew (cell_new rfl rfl))))) (bkeep hb8 (cell_drew (bkeep hb7 (cell_drew (cell_new rfl rfl))))) hWn (fun z0 z1 HZ => ?_); generalize wy.heap.size = X at z0 z1 ⊢)
                clear hWn hc7 hf7 hc8 hf8 hb7 hb8 HZ
                have hBz := bthen hBy hBn
                have zz := cell_lt z0
                obtain ⟨t0, t1⟩ := HS.out wn hBn
                have zt := cell_lt t0
                have hyn := Below.refl wn.heap.size wn
                go_wp2_with fail
                (with_reducible refine (IC.out _).mono ?_)
                rintro e w9 ⟨rfl, hb9⟩
                have hk9 : Below wn.heap.size wn w9 := bthen (by repeat (first | exact Below.refl _ _ | exact hyn | refine Below.drew ?_ | refine below_drewN ?_ _ | refine bset ?_ (by simp <;> omega) _ | refine bal ?_ _)) hb9
                have z09 := bkeep hk9 z0
                have z19 := bkeep hk9 z1
                have zz9 := cell_lt z09
                have hBz9 := bthen hBz hk9
                have hy9 := Below.refl w9.heap.size w9
                clear hk9 hb9 z0 z1 t0 t1 hBn IC
                go_wp2_with fail
                (with_reducible refine (SC.out _).mono ?_)
                rintro e w10 ⟨rfl, hb10⟩
                have hBf := bthen hBz9 (bthen (show Below w9.heap.size w9 _ by repeat (first | exact Below.refl _ _ | exact hy9 | refine Below.drew ?_ | refine below_drewN ?_ _ | refine bset ?_ (by simp <;> omega) _ | refine bal ?_ _)) hb10)
                clear SC hb10
                go_wp2
                exact ⟨⟨j + 1, hl, by go_num, by repeat (first | exact Below.refl _ _ | exact hBf | refine Below.drew ?_ | refine below_drewN ?_ _ | refine bset ?_ (by simp <;> omega) _ | refine bal ?_ _)⟩, measS hl (by go_num) rfl⟩
            have HPN := Lib.hid hpi
            have VC := Lib.hid (fun v V (hv : PRow 0 V v l) => value_c v l 64 pa pb V hv (by rw [HLN.out]; exact hp1) (by rw [HLN.out]; exact hp16) HPN.out HBI.out (by decide))
            have IC := Lib.hid (fun V => refIn9 pa pb true V (inB_yes hpi))
            have HBV := Lib.hid (hvL_bd9 hpi (by rw [HLN.out]; exact hp16) HBI.out)
            clear hpi
            go_region_law (go_simp; go_wp2_with (first
              | (go_at_call 16; refine (LX.out _ ?_).mono ?_; (repeat (first | exact Below.refl _ _ | exact hBw | refine Below.drew ?_ | refine below_drewN ?_ _ | refine bset ?_ (by simp <;> omega) _ | refine bal ?_ _)); rintro e w7 ⟨⟨v7, rfl, hv7⟩, hb7⟩; (have hBd : Below wy.heap.size wy w7 := bthen (by repeat (first | exact Below.refl _ _ | exact hBw | refine Below.drew ?_ | refine below_drewN ?_ _ | refine bset ?_ (by simp <;> omega) _ | refine bal ?_ _)) hb7; clear hBw; have hBw := hBd; clear hBd); obtain ⟨t0, t1⟩ := HS.out w7 hBw; have zt7 := cell_lt t0; have HV7 := Lib.hid (show PRow 0 w7 v7 l from hv7.row.rebase (Nat.zero_le _)); have hy7 := Below.refl w7.heap.size w7; obtain ⟨r7, q7, rfl⟩ := hv7.ex; clear hv7; have hc7 := (bcell hb7).1; have hf7 := (bcell hb7).2; have hs7 := hb7.size; (try simp [go_sem] at hs7); (try have qa : wy.heap.size < w7.heap.size := by omega))
              | (go_at_call 22; refine (VC.out _ _ (IsRow.keep lims_int HV7.out ?_)).mono ?_; (repeat (first | exact Below.refl _ _ | exact hy7 | refine Below.drew ?_ | refine below_drewN ?_ _ | refine bset ?_ (by simp <;> omega) _ | refine bal ?_ _)); rintro e w8 ⟨⟨u8, rfl, hu8⟩, hb8⟩; (have hBd : Below wy.heap.size wy w8 := bthen (by repeat (first | exact Below.refl _ _ | exact hBw | refine Below.drew ?_ | refine below_drewN ?_ _ | refine bset ?_ (by simp <;> omega) _ | refine bal ?_ _)) hb8; clear hBw; have hBw := hBd; clear hBd); obtain ⟨t0, t1⟩ := HS.out w8 hBw; have zt8 := cell_lt t0; have hc8 := (bcell hb8).1; have hf8 := (bcell hb8).2; have hs8 := hb8.size; (try simp [go_sem] at hs8); (try have qa : wy.heap.size < w8.heap.size := by omega); have HU8 := Lib.hid hu8; obtain ⟨un, ud, ul, uk, rfl⟩ := hu8.litE)
              | fail))
            all_goals
              clear LX VC
              go_upto_region 23 with (fail)
              refine wp_name fun wn hWn => ?_
              have hBn : Below wy.heap.size wy wn := by rw [hWn]; repeat (first | exact Below.refl _ _ | exact hBw | refine Below.drew ?_ | refine below_drewN ?_ _ | refine bset ?_ (by simp <;> omega) _ | refine bal ?_ _)
              first
                | (refine z2new HU8.out hWn (fun z0 z1 HZ => ?_); generalize w8.heap.size = X at z0 z1 ⊢)
                | (refine z2put HU8.out (bkeep hb8 (cell_new rfl rfl)) (bkeep hb8 (cell_new rfl rfl)) hWn (fun z0 z1 HZ => ?_); generalize w7.heap.size = X at z0 z1 ⊢)
                | (refine z2put HU8.out (bkeep hb8 (cell_drew (cell_new rfl rfl))) (bkeep hb8 (cell_drew (cell_new rfl rfl))) hWn (fun z0 z1 HZ => ?_); generalize w7.heap.size = X at z0 z1 ⊢)
                | (refine z2put HU8.out (bkeep hb8 (bkeep hb7 (cell_new rfl rfl))) (bkeep hb8 (bkeep hb7 (cell_new rfl rfl))) hWn (fun z0 z1 HZ => ?_); generalize wy.heap.size = X at z0 z1 ⊢)
                | (refine z2put HU8.out (bkeep hb8 (cell_drew (bkeep hb7 (cell_new rfl rfl)))) (bkeep hb8 (cell_drew (bkeep hb7 (cell_new rfl rfl)))) hWn (fun z0 z1 HZ => ?_); generalize wy.heap.size = X at z0 z1 ⊢)
                | (refine z2put HU8.out (bkeep hb8 (bkeep hb7 (cell_drew (cell_new rfl rfl)))) (bkeep hb8 (bkeep hb7 (cell_drew (cell_new rfl rfl)))) hWn (fun z0 z1 HZ => ?_); generalize wy.heap.size = X at z0 z1 ⊢)
                | (refine z2put HU8.out (bkeep hb8 (cell_drew (bkeep hb7 (cell_drew (cell_new rfl rfl))))) (bkeep hb8 (cell_drew (bkeep hb7 (cell_drew (cell_new rfl rfl))))) hWn (fun z0 z1 HZ => ?_); generalize wy.heap.size = X at z0 z1 ⊢)
              clear hWn hc7 hf7 hc8 hf8 hb7 hb8
              have hBz := bthen hBy hBn
              have zz := cell_lt z0
              obtain ⟨t0, t1⟩ := HS.out wn hBn
              have zt := cell_lt t0
              have hyn := Below.refl wn.heap.size wn
              go_wp2_with fail
              (with_reducible refine (IC.out _).mono ?_)
              rintro e w9 ⟨rfl, hb9⟩
              have hk9 : Below wn.heap.size wn w9 := bthen (by repeat (first | exact Below.refl _ _ | exact hyn | refine Below.drew ?_ | refine below_drewN ?_ _ | refine bset ?_ (by simp <;> omega) _ | refine bal ?_ _)) hb9
              have z09 := bkeep hk9 z0
              have z19 := bkeep hk9 z1
              have t09 := bkeep hk9 t0
              have t19 := bkeep hk9 t1
              have zz9 := cell_lt z09
              have zt9 := cell_lt t09
              have HZ9 := Lib.hid (HZ.out.keep hk9)
              have hBz9 := bthen hBz hk9
              have hBq := Below.refl w9.heap.size w9
              clear hk9 hb9 z0 z1 t0 t1 hBn IC HZ HS hBw
              have TX := Lib.hid (fun V (q : Below w9.heap.size w9 V) => intText_c (.agg #[.bool un, .slice ud ul uk]) (hvL l pa pb) 280 V (HZ9.out.keep q) HBV.out (by decide))
              have RF := Lib.hid (fun V (q : Below w9.heap.size w9 V) => ref11_c (.slice xa P xc) l V (HXI.out.keep (bthen HB4.out (bthen hBz9 q))) (by rw [HLN.out]; omega))
              have VL := Lib.hid (fun u V (hu : RRow 0 V u l) => rvalue_c u l 64 pa pb V hu (by rw [HLN.out]; exact hp16) HPN.out HBI.out (by decide))
              have TY := Lib.hid (fun u V (hu : IsRef V u (hvL l pa pb)) => rtext_c u (hvL l pa pb) 280 V hu HBV.out (by decide))
              have HS := Lib.hid (show ∀ V, Below w9.heap.size w9 V → V.cell? ⟨X, 0, none⟩ = some (.bool un) ∧ V.cell? ⟨X, 1, none⟩ = some (.slice ud ul uk) ∧ V.cell? ⟨wz.heap.size, 0, none⟩ = some (.int .i64 pa) ∧ V.cell? ⟨wz.heap.size, 1, none⟩ = some (.int .i64 pb) from fun V q => ⟨bkeep q z09, bkeep q z19, bkeep q t09, bkeep q t19⟩)
              go_wp2
              go_region_held3 (fun V => V.cell? ⟨X, 0, none⟩ = some (.bool un) ∧ V.cell? ⟨X, 1, none⟩ = some (.slice ud ul uk) ∧ V.cell? ⟨wz.heap.size, 0, none⟩ = some (.int .i64 pa) ∧ V.cell? ⟨wz.heap.size, 1, none⟩ = some (.int .i64 pb))
                (first | (refine HS.out _ ?_; (repeat (first | exact Below.refl _ _ | exact hBq | refine Below.drew ?_ | refine below_drewN ?_ _ | refine bset ?_ (by simp <;> omega) _ | refine bal ?_ _)); done) | fail)
                (first
                  | (go_at_call 18; refine (TX.out _ ?_).mono ?_; (repeat (first | exact Below.refl _ _ | exact hBq | refine Below.drew ?_ | refine below_drewN ?_ _ | refine bset ?_ (by simp <;> omega) _ | refine bal ?_ _)); rintro e w17 ⟨rfl, hb17⟩; (have hBd : Below w9.heap.size w9 w17 := bthen (by repeat (first | exact Below.refl _ _ | exact hBq | refine Below.drew ?_ | refine below_drewN ?_ _ | refine bset ?_ (by simp <;> omega) _ | refine bal ?_ _)) hb17; clear hBq; have hBq := hBd; clear hBd))
                  | (go_at_call 21; refine (RF.out _ ?_).mono ?_; (repeat (first | exact Below.refl _ _ | exact hBq | refine Below.drew ?_ | refine below_drewN ?_ _ | refine bset ?_ (by simp <;> omega) _ | refine bal ?_ _)); rintro e w18 ⟨⟨v8, rfl, hv8⟩, hb18⟩; (have hBd : Below w9.heap.size w9 w18 := bthen (by repeat (first | exact Below.refl _ _ | exact hBq | refine Below.drew ?_ | refine below_drewN ?_ _ | refine bset ?_ (by simp <;> omega) _ | refine bal ?_ _)) hb18; clear hBq; have hBq := hBd; clear hBd); have HV8 := Lib.hid (show RRow 0 w18 v8 l from hv8.row.rebase (Nat.zero_le _)); have hy18 := Below.refl w18.heap.size w18; obtain ⟨r8, q8, rfl⟩ := hv8.ex)
                  | (go_at_call 20; refine (VL.out _ _ (HV8.out.keep lims_ref ?_)).mono ?_; (repeat (first | exact Below.refl _ _ | exact hy18 | refine Below.drew ?_ | refine below_drewN ?_ _ | refine bset ?_ (by simp <;> omega) _ | refine bal ?_ _)); rintro e w19 ⟨⟨v9, rfl, hv9⟩, hb19⟩; (have hBd : Below w9.heap.size w9 w19 := bthen (by repeat (first | exact Below.refl _ _ | exact hBq | refine Below.drew ?_ | refine below_drewN ?_ _ | refine bset ?_ (by simp <;> omega) _ | refine bal ?_ _)) hb19; clear hBq; have hBq := hBd; clear hBd); have HV9 := Lib.hid hv9; have hy19 := Below.refl w19.heap.size w19; obtain ⟨n9, a9, c9, l9, rfl, -⟩ := hv9; unfold iv at *)
                  | (go_at_call 19; refine (TY.out _ _ (HV9.out.keep ?_)).mono ?_; (repeat (first | exact Below.refl _ _ | exact hy19 | refine Below.drew ?_ | refine below_drewN ?_ _ | refine bset ?_ (by simp <;> omega) _ | refine bal ?_ _)); rintro e w20 ⟨rfl, hb20⟩; (have hBd : Below w9.heap.size w9 w20 := bthen (by repeat (first | exact Below.refl _ _ | exact hBq | refine Below.drew ?_ | refine below_drewN ?_ _ | refine bset ?_ (by simp <;> omega) _ | refine bal ?_ _)) hb20; clear hBq; have hBq := hBd; clear hBd))
                  | fail)
              all_goals
                have hB2 := bthen hBz9 hBq
                clear TX RF VL TY HS
                go_wp2
                exact ⟨⟨j + 1, hl, by go_num, by repeat (first | exact Below.refl _ _ | exact hB2 | refine Below.drew ?_ | refine below_drewN ?_ _ | refine bset ?_ (by simp <;> omega) _ | refine bal ?_ _)⟩, measS hl (by go_num) rfl⟩
          · obtain rfl : M = j := by omega
            have hltI : ¬ (M : Int) < (M : Int) := by omega
            have EQ := Lib.hid (fun V (q : Below wz.heap.size wz V) => eqPts_c (some ⟨b', 0, none⟩) a n c' cap f V (HI4.out.keep (bthen hBz q)) (HP.out.keep (bthen (bthen HB4.out hBz) q)) (by omega))
            have hB := bthen HB4.out hBz
            have hBw := Below.refl wz.heap.size wz
            go_wp2_with fail
            (with_reducible refine (EQ.out _ ?_).mono ?_); (repeat (first | exact Below.refl _ _ | exact hBw | refine Below.drew ?_ | refine below_drewN ?_ _ | refine bset ?_ (by simp <;> omega) _ | refine bal ?_ _))
            rintro e w20 ⟨rfl, hb20⟩
            have hBf := bthen hB (bthen (show Below wz.heap.size wz _ by repeat (first | exact Below.refl _ _ | exact hBw | refine Below.drew ?_ | refine below_drewN ?_ _ | refine bset ?_ (by simp <;> omega) _ | refine bal ?_ _)) hb20)
            clear EQ hb20
            go_wp2
            go_ret
            exact ⟨rfl, by repeat (first | exact Below.refl _ _ | exact hBf | refine Below.drew ?_ | refine below_drewN ?_ _ | refine bset ?_ (by simp <;> omega) _ | refine bal ?_ _)⟩
  by_cases c3 : P < 1
  · have e1 : decide (1 ≤ (P : Int)) = false := decide_eq_false (by omega)
    have HNO : ¬ (1 ≤ l.length ∧ l.length ≤ 16) := by rw [HLN.out]; omega
    clear c2
    have TC := Lib.hid (fun V (qB : Below w4.heap.size w4 V) => values_no (.slice ya P yc) l (some ⟨b', 0, none⟩) n c' f V (IsRow.keep lims_int HX.out qB) (HI4.out.keep qB) (by omega) (fun q => HNO ⟨q.1, q.2.1⟩))
    go_wp2_with fail
    (with_reducible refine (TC.out _ ?_).mono ?_); (repeat (first | exact Below.refl _ _ | exact hBw | refine Below.drew ?_ | refine below_drewN ?_ _ | refine bset ?_ (by simp <;> omega) _ | refine bal ?_ _))
    rintro e w5 ⟨rfl, hb5⟩
    have hk : Below w4.heap.size w4 w5 := bthen (by repeat (first | exact Below.refl _ _ | exact hBw | refine Below.drew ?_ | refine below_drewN ?_ _ | refine bset ?_ (by simp <;> omega) _ | refine bal ?_ _)) hb5
    have hBn := bthen hB hk
    clear TC hBw hB hb5
    have hB := hBn
    clear hBn
    have hBw := Below.refl w5.heap.size w5
    have hB4 := hk
    clear hB hBw hk HX
    go_wp2
    go_loopw [88] (fun x wz => ∃ j : Nat, j ≤ M ∧ x = .int .i64 j ∧ Below w4.heap.size w4 wz) (fun x _ => M - (intOf x).toNat)
    case atStart => exact ⟨0, Nat.zero_le _, rfl, by repeat (first | exact Below.refl _ _ | exact hB4 | refine Below.drew ?_ | refine below_drewN ?_ _ | refine bset ?_ (by simp <;> omega) _ | refine bal ?_ _)⟩
    case round =>
      obtain ⟨j, hj, rfl, hBz⟩ := hrel
      rename World => wz
      clear hB4
      by_cases hlt : j < M
      · have hltI : (j : Int) < (M : Int) := by omega
        obtain ⟨b5, off5, rfl, -, c0, c1⟩ := (HP.out.keep (bthen HB4.out hBz)).atE (i := j) (by omega)
        obtain ⟨pa, hpa⟩ : ∃ x, (f j).1 = x := ⟨_, rfl⟩
        obtain ⟨pb, hpb⟩ : ∃ x, (f j).2 = x := ⟨_, rfl⟩
        rw [hpa] at c0
        rw [hpb] at c1
        have zc := cell_lt c0
        have hBw := Below.refl wz.heap.size wz
        clear hpa hpb
        go_upto_region 22 with (fail)
        refine wp_name fun wy hWy => ?_
        have hky : Below wz.heap.size wz wy := by rw [hWy]; repeat (first | exact Below.refl _ _ | exact hBw | refine Below.drew ?_ | refine below_drewN ?_ _ | refine bset ?_ (by simp <;> omega) _ | refine bal ?_ _)
        have t0 : wy.cell? ⟨wz.heap.size, 0, none⟩ = some (.int .i64 pa) := by rw [hWy]; simp [go_sem]
        have t1 : wy.cell? ⟨wz.heap.size, 1, none⟩ = some (.int .i64 pb) := by rw [hWy]; simp [go_sem]
        have hBy := bthen hBz hky
        have LX := Lib.hid (fun V (q : Below wy.heap.size wy V) => list11_c (.slice xa P xc) l V (HXI.out.keep (bthen (bthen HB4.out hBy) q)) (by rw [HLN.out]; omega))
        have HS := Lib.hid (show ∀ V, Below wy.heap.size wy V → V.cell? ⟨wz.heap.size, 0, none⟩ = some (.int .i64 pa) ∧ V.cell? ⟨wz.heap.size, 1, none⟩ = some (.int .i64 pb) from fun V q => ⟨bkeep q t0, bkeep q t1⟩)
        have zt := cell_lt t0
        have hl := hlt
        clear hWy hBw hBz hky c0 c1 hlt
        have hBw := Below.refl wy.heap.size wy
        have HNP := Lib.hid (show ¬ (1 ≤ l.length ∧ l.length ≤ 16 ∧ PIn pa pb) from fun q => HNO ⟨q.1, q.2.1⟩)
        have VC := Lib.hid (fun v V (hv : PRow 0 V v l) => value_no v l pa pb V hv HNP.out)
        have SC := Lib.hid sgnZero9
        go_region_law (go_simp; go_wp2_with (first
          | (go_at_call 16; refine (LX.out _ ?_).mono ?_; (repeat (first | exact Below.refl _ _ | exact hBw | refine Below.drew ?_ | refine below_drewN ?_ _ | refine bset ?_ (by simp <;> omega) _ | refine bal ?_ _)); rintro e w7 ⟨⟨v7, rfl, hv7⟩, hb7⟩; (have hBd : Below wy.heap.size wy w7 := bthen (by repeat (first | exact Below.refl _ _ | exact hBw | refine Below.drew ?_ | refine below_drewN ?_ _ | refine bset ?_ (by simp <;> omega) _ | refine bal ?_ _)) hb7; clear hBw; have hBw := hBd; clear hBd); obtain ⟨t0, t1⟩ := HS.out w7 hBw; have zt7 := cell_lt t0; have HV7 := Lib.hid (show PRow 0 w7 v7 l from hv7.row.rebase (Nat.zero_le _)); have hy7 := Below.refl w7.heap.size w7; obtain ⟨r7, q7, rfl⟩ := hv7.ex; clear hv7; have hc7 := (bcell hb7).1; have hf7 := (bcell hb7).2; have hs7 := hb7.size; (try simp [go_sem] at hs7); (try have qa : wy.heap.size < w7.heap.size := by omega))
          | (go_at_call 22; refine (VC.out _ _ (IsRow.keep lims_int HV7.out ?_)).mono ?_; (repeat (first | exact Below.refl _ _ | exact hy7 | refine Below.drew ?_ | refine below_drewN ?_ _ | refine bset ?_ (by simp <;> omega) _ | refine bal ?_ _)); rintro e w8 ⟨rfl, hb8⟩; (have hBd : Below wy.heap.size wy w8 := bthen (by repeat (first | exact Below.refl _ _ | exact hBw | refine Below.drew ?_ | refine below_drewN ?_ _ | refine bset ?_ (by simp <;> omega) _ | refine bal ?_ _)) hb8; clear hBw; have hBw := hBd; clear hBd); obtain ⟨t0, t1⟩ := HS.out w8 hBw; have zt8 := cell_lt t0; have hc8 := (bcell hb8).1; have hf8 := (bcell hb8).2; have hs8 := hb8.size; (try simp [go_sem] at hs8); (try have qa : wy.heap.size < w8.heap.size := by omega))
          | fail))
        all_goals
          have hB8 := hBw
          clear hBw
          clear LX VC HS
          go_wp2_with fail
          (with_reducible refine (SC.out _).mono ?_)
          rintro e w10 ⟨rfl, hb10⟩
          have hBf := bthen hBy (bthen (show Below wy.heap.size wy _ by repeat (first | exact Below.refl _ _ | exact hB8 | refine Below.drew ?_ | refine below_drewN ?_ _ | refine bset ?_ (by simp <;> omega) _ | refine bal ?_ _)) hb10)
          clear SC hb10
          go_wp2
          exact ⟨⟨j + 1, hl, by go_num, by repeat (first | exact Below.refl _ _ | exact hBf | refine Below.drew ?_ | refine below_drewN ?_ _ | refine bset ?_ (by simp <;> omega) _ | refine bal ?_ _)⟩, measS hl (by go_num) rfl⟩
      · obtain rfl : M = j := by omega
        have hltI : ¬ (M : Int) < (M : Int) := by omega
        have EQ := Lib.hid (fun V (q : Below wz.heap.size wz V) => eqPts_c (some ⟨b', 0, none⟩) a n c' cap f V (HI4.out.keep (bthen hBz q)) (HP.out.keep (bthen (bthen HB4.out hBz) q)) (by omega))
        have hB := bthen HB4.out hBz
        have hBw := Below.refl wz.heap.size wz
        go_wp2_with fail
        (with_reducible refine (EQ.out _ ?_).mono ?_); (repeat (first | exact Below.refl _ _ | exact hBw | refine Below.drew ?_ | refine below_drewN ?_ _ | refine bset ?_ (by simp <;> omega) _ | refine bal ?_ _))
        rintro e w20 ⟨rfl, hb20⟩
        have hBf := bthen hB (bthen (show Below wz.heap.size wz _ by repeat (first | exact Below.refl _ _ | exact hBw | refine Below.drew ?_ | refine below_drewN ?_ _ | refine bset ?_ (by simp <;> omega) _ | refine bal ?_ _)) hb20)
        clear EQ hb20
        go_wp2
        go_ret
        exact ⟨rfl, by repeat (first | exact Below.refl _ _ | exact hBf | refine Below.drew ?_ | refine below_drewN ?_ _ | refine bset ?_ (by simp <;> omega) _ | refine bal ?_ _)⟩
  by_cases c4 : 16 < P
  · have e1 : decide (1 ≤ (P : Int)) = true := decide_eq_true (by omega)
    have e2 : decide ((P : Int) ≤ 16) = false := decide_eq_false (by omega)
    have HNO : ¬ (1 ≤ l.length ∧ l.length ≤ 16) := by rw [HLN.out]; omega
    clear c2
    have TC := Lib.hid (fun V (qB : Below w4.heap.size w4 V) => values_no (.slice ya P yc) l (some ⟨b', 0, none⟩) n c' f V (IsRow.keep lims_int HX.out qB) (HI4.out.keep qB) (by omega) (fun q => HNO ⟨q.1, q.2.1⟩))
    go_wp2_with fail
    (with_reducible refine (TC.out _ ?_).mono ?_); (repeat (first | exact Below.refl _ _ | exact hBw | refine Below.drew ?_ | refine below_drewN ?_ _ | refine bset ?_ (by simp <;> omega) _ | refine bal ?_ _))
    rintro e w5 ⟨rfl, hb5⟩
    have hk : Below w4.heap.size w4 w5 := bthen (by repeat (first | exact Below.refl _ _ | exact hBw | refine Below.drew ?_ | refine below_drewN ?_ _ | refine bset ?_ (by simp <;> omega) _ | refine bal ?_ _)) hb5
    have hBn := bthen hB hk
    clear TC hBw hB hb5
    have hB := hBn
    clear hBn
    have hBw := Below.refl w5.heap.size w5
    have hB4 := hk
    clear hB hBw hk HX
    go_wp2
    go_loopw [88] (fun x wz => ∃ j : Nat, j ≤ M ∧ x = .int .i64 j ∧ Below w4.heap.size w4 wz) (fun x _ => M - (intOf x).toNat)
    case atStart => exact ⟨0, Nat.zero_le _, rfl, by repeat (first | exact Below.refl _ _ | exact hB4 | refine Below.drew ?_ | refine below_drewN ?_ _ | refine bset ?_ (by simp <;> omega) _ | refine bal ?_ _)⟩
    case round =>
      obtain ⟨j, hj, rfl, hBz⟩ := hrel
      rename World => wz
      clear hB4
      by_cases hlt : j < M
      · have hltI : (j : Int) < (M : Int) := by omega
        obtain ⟨b5, off5, rfl, -, c0, c1⟩ := (HP.out.keep (bthen HB4.out hBz)).atE (i := j) (by omega)
        obtain ⟨pa, hpa⟩ : ∃ x, (f j).1 = x := ⟨_, rfl⟩
        obtain ⟨pb, hpb⟩ : ∃ x, (f j).2 = x := ⟨_, rfl⟩
        rw [hpa] at c0
        rw [hpb] at c1
        have zc := cell_lt c0
        have hBw := Below.refl wz.heap.size wz
        clear hpa hpb
        go_upto_region 22 with (fail)
        refine wp_name fun wy hWy => ?_
        have hky : Below wz.heap.size wz wy := by rw [hWy]; repeat (first | exact Below.refl _ _ | exact hBw | refine Below.drew ?_ | refine below_drewN ?_ _ | refine bset ?_ (by simp <;> omega) _ | refine bal ?_ _)
        have t0 : wy.cell? ⟨wz.heap.size, 0, none⟩ = some (.int .i64 pa) := by rw [hWy]; simp [go_sem]
        have t1 : wy.cell? ⟨wz.heap.size, 1, none⟩ = some (.int .i64 pb) := by rw [hWy]; simp [go_sem]
        have hBy := bthen hBz hky
        have LX := Lib.hid (fun V (q : Below wy.heap.size wy V) => list11_c (.slice xa P xc) l V (HXI.out.keep (bthen (bthen HB4.out hBy) q)) (by rw [HLN.out]; omega))
        have HS := Lib.hid (show ∀ V, Below wy.heap.size wy V → V.cell? ⟨wz.heap.size, 0, none⟩ = some (.int .i64 pa) ∧ V.cell? ⟨wz.heap.size, 1, none⟩ = some (.int .i64 pb) from fun V q => ⟨bkeep q t0, bkeep q t1⟩)
        have zt := cell_lt t0
        have hl := hlt
        clear hWy hBw hBz hky c0 c1 hlt
        have hBw := Below.refl wy.heap.size wy
        have HNP := Lib.hid (show ¬ (1 ≤ l.length ∧ l.length ≤ 16 ∧ PIn pa pb) from fun q => HNO ⟨q.1, q.2.1⟩)
        have VC := Lib.hid (fun v V (hv : PRow 0 V v l) => value_no v l pa pb V hv HNP.out)
        have SC := Lib.hid sgnZero9
        go_region_law (go_simp; go_wp2_with (first
          | (go_at_call 16; refine (LX.out _ ?_).mono ?_; (repeat (first | exact Below.refl _ _ | exact hBw | refine Below.drew ?_ | refine below_drewN ?_ _ | refine bset ?_ (by simp <;> omega) _ | refine bal ?_ _)); rintro e w7 ⟨⟨v7, rfl, hv7⟩, hb7⟩; (have hBd : Below wy.heap.size wy w7 := bthen (by repeat (first | exact Below.refl _ _ | exact hBw | refine Below.drew ?_ | refine below_drewN ?_ _ | refine bset ?_ (by simp <;> omega) _ | refine bal ?_ _)) hb7; clear hBw; have hBw := hBd; clear hBd); obtain ⟨t0, t1⟩ := HS.out w7 hBw; have zt7 := cell_lt t0; have HV7 := Lib.hid (show PRow 0 w7 v7 l from hv7.row.rebase (Nat.zero_le _)); have hy7 := Below.refl w7.heap.size w7; obtain ⟨r7, q7, rfl⟩ := hv7.ex; clear hv7; have hc7 := (bcell hb7).1; have hf7 := (bcell hb7).2; have hs7 := hb7.size; (try simp [go_sem] at hs7); (try have qa : wy.heap.size < w7.heap.size := by omega))
          | (go_at_call 22; refine (VC.out _ _ (IsRow.keep lims_int HV7.out ?_)).mono ?_; (repeat (first | exact Below.refl _ _ | exact hy7 | refine Below.drew ?_ | refine below_drewN ?_ _ | refine bset ?_ (by simp <;> omega) _ | refine bal ?_ _)); rintro e w8 ⟨rfl, hb8⟩; (have hBd : Below wy.heap.size wy w8 := bthen (by repeat (first | exact Below.refl _ _ | exact hBw | refine Below.drew ?_ | refine below_drewN ?_ _ | refine bset ?_ (by simp <;> omega) _ | refine bal ?_ _)) hb8; clear hBw; have hBw := hBd; clear hBd); obtain ⟨t0, t1⟩ := HS.out w8 hBw; have zt8 := cell_lt t0; have hc8 := (bcell hb8).1; have hf8 := (bcell hb8).2; have hs8 := hb8.size; (try simp [go_sem] at hs8); (try have qa : wy.heap.size < w8.heap.size := by omega))
          | fail))
        all_goals
          have hB8 := hBw
          clear hBw
          clear LX VC HS
          go_wp2_with fail
          (with_reducible refine (SC.out _).mono ?_)
          rintro e w10 ⟨rfl, hb10⟩
          have hBf := bthen hBy (bthen (show Below wy.heap.size wy _ by repeat (first | exact Below.refl _ _ | exact hB8 | refine Below.drew ?_ | refine below_drewN ?_ _ | refine bset ?_ (by simp <;> omega) _ | refine bal ?_ _)) hb10)
          clear SC hb10
          go_wp2
          exact ⟨⟨j + 1, hl, by go_num, by repeat (first | exact Below.refl _ _ | exact hBf | refine Below.drew ?_ | refine below_drewN ?_ _ | refine bset ?_ (by simp <;> omega) _ | refine bal ?_ _)⟩, measS hl (by go_num) rfl⟩
      · obtain rfl : M = j := by omega
        have hltI : ¬ (M : Int) < (M : Int) := by omega
        have EQ := Lib.hid (fun V (q : Below wz.heap.size wz V) => eqPts_c (some ⟨b', 0, none⟩) a n c' cap f V (HI4.out.keep (bthen hBz q)) (HP.out.keep (bthen (bthen HB4.out hBz) q)) (by omega))
        have hB := bthen HB4.out hBz
        have hBw := Below.refl wz.heap.size wz
        go_wp2_with fail
        (with_reducible refine (EQ.out _ ?_).mono ?_); (repeat (first | exact Below.refl _ _ | exact hBw | refine Below.drew ?_ | refine below_drewN ?_ _ | refine bset ?_ (by simp <;> omega) _ | refine bal ?_ _))
        rintro e w20 ⟨rfl, hb20⟩
        have hBf := bthen hB (bthen (show Below wz.heap.size wz _ by repeat (first | exact Below.refl _ _ | exact hBw | refine Below.drew ?_ | refine below_drewN ?_ _ | refine bset ?_ (by simp <;> omega) _ | refine bal ?_ _)) hb20)
        clear EQ hb20
        go_wp2
        go_ret
        exact ⟨rfl, by repeat (first | exact Below.refl _ _ | exact hBf | refine Below.drew ?_ | refine below_drewN ?_ _ | refine bset ?_ (by simp <;> omega) _ | refine bal ?_ _)⟩
  have e1 : decide (1 ≤ (P : Int)) = true := decide_eq_true (by omega)
  have e2 : decide ((P : Int) ≤ 16) = true := decide_eq_true (by omega)
  have hp1 : 1 ≤ P := by omega
  have hp16 : P ≤ 16 := by omega
  have HNK := Lib.hid (show ¬ PtsOk n f from fun q => c2 ⟨hp1, hp16, q⟩)
  clear c2 c3 c4
  have TC := Lib.hid (fun V (qB : Below w4.heap.size w4 V) => values_no (.slice ya P yc) l (some ⟨b', 0, none⟩) n c' f V (IsRow.keep lims_int HX.out qB) (HI4.out.keep qB) (by omega) (fun q => HNK.out q.2.2))
  go_wp2_with fail
  (with_reducible refine (TC.out _ ?_).mono ?_); (repeat (first | exact Below.refl _ _ | exact hBw | refine Below.drew ?_ | refine below_drewN ?_ _ | refine bset ?_ (by simp <;> omega) _ | refine bal ?_ _))
  rintro e w5 ⟨rfl, hb5⟩
  have hk : Below w4.heap.size w4 w5 := bthen (by repeat (first | exact Below.refl _ _ | exact hBw | refine Below.drew ?_ | refine below_drewN ?_ _ | refine bset ?_ (by simp <;> omega) _ | refine bal ?_ _)) hb5
  have hBn := bthen hB hk
  clear TC hBw hB hb5
  have hB := hBn
  clear hBn
  have hBw := Below.refl w5.heap.size w5
  have H45 := Lib.hid hk
  clear hk
  have TC := Lib.hid (fun V (qB : Below w5.heap.size w5 V) => rpoints11_v a n cap f false V (HP.out.keep (bthen hB qB)) (by omega) (ptsB_no HNK.out))
  go_wp2_with fail
  (with_reducible refine (TC.out _ ?_).mono ?_); (repeat (first | exact Below.refl _ _ | exact hBw | refine Below.drew ?_ | refine below_drewN ?_ _ | refine bset ?_ (by simp <;> omega) _ | refine bal ?_ _))
  rintro e w6 ⟨rfl, hb6⟩
  have hk : Below w5.heap.size w5 w6 := bthen (by repeat (first | exact Below.refl _ _ | exact hBw | refine Below.drew ?_ | refine below_drewN ?_ _ | refine bset ?_ (by simp <;> omega) _ | refine bal ?_ _)) hb6
  have hBn := bthen hB hk
  clear TC hBw hB hb6
  have hB := hBn
  clear hBn
  have hBw := Below.refl w6.heap.size w6
  have hB4 := bthen H45.out hk
  clear hB hBw hk HX
  go_wp2
  go_loopw [88] (fun x wz => ∃ j : Nat, j ≤ M ∧ x = .int .i64 j ∧ Below w4.heap.size w4 wz) (fun x _ => M - (intOf x).toNat)
  case atStart => exact ⟨0, Nat.zero_le _, rfl, by repeat (first | exact Below.refl _ _ | exact hB4 | refine Below.drew ?_ | refine below_drewN ?_ _ | refine bset ?_ (by simp <;> omega) _ | refine bal ?_ _)⟩
  case round =>
    obtain ⟨j, hj, rfl, hBz⟩ := hrel
    rename World => wz
    clear hB4
    by_cases hlt : j < M
    · have hltI : (j : Int) < (M : Int) := by omega
      obtain ⟨b5, off5, rfl, -, c0, c1⟩ := (HP.out.keep (bthen HB4.out hBz)).atE (i := j) (by omega)
      obtain ⟨pa, hpa⟩ : ∃ x, (f j).1 = x := ⟨_, rfl⟩
      obtain ⟨pb, hpb⟩ : ∃ x, (f j).2 = x := ⟨_, rfl⟩
      rw [hpa] at c0
      rw [hpb] at c1
      have zc := cell_lt c0
      have hBw := Below.refl wz.heap.size wz
      clear hpa hpb
      go_upto_region 22 with (fail)
      refine wp_name fun wy hWy => ?_
      have hky : Below wz.heap.size wz wy := by rw [hWy]; repeat (first | exact Below.refl _ _ | exact hBw | refine Below.drew ?_ | refine below_drewN ?_ _ | refine bset ?_ (by simp <;> omega) _ | refine bal ?_ _)
      have t0 : wy.cell? ⟨wz.heap.size, 0, none⟩ = some (.int .i64 pa) := by rw [hWy]; simp [go_sem]
      have t1 : wy.cell? ⟨wz.heap.size, 1, none⟩ = some (.int .i64 pb) := by rw [hWy]; simp [go_sem]
      have hBy := bthen hBz hky
      have LX := Lib.hid (fun V (q : Below wy.heap.size wy V) => list11_c (.slice xa P xc) l V (HXI.out.keep (bthen (bthen HB4.out hBy) q)) (by rw [HLN.out]; omega))
      have HS := Lib.hid (show ∀ V, Below wy.heap.size wy V → V.cell? ⟨wz.heap.size, 0, none⟩ = some (.int .i64 pa) ∧ V.cell? ⟨wz.heap.size, 1, none⟩ = some (.int .i64 pb) from fun V q => ⟨bkeep q t0, bkeep q t1⟩)
      have zt := cell_lt t0
      have hl := hlt
      clear hWy hBw hBz hky c0 c1 hlt
      have hBw := Below.refl wy.heap.size wy
      by_cases hpi : PIn pa pb
      rotate_left
      · have HNP := Lib.hid (show ¬ (1 ≤ l.length ∧ l.length ≤ 16 ∧ PIn pa pb) from fun q => hpi q.2.2)
        have VC := Lib.hid (fun v V (hv : PRow 0 V v l) => value_no v l pa pb V hv HNP.out)
        have SC := Lib.hid sgnZero9
        have IC := Lib.hid (fun V => refIn9 pa pb false V (inB_no hpi))
        clear hpi
        go_region_law (go_simp; go_wp2_with (first
          | (go_at_call 16; refine (LX.out _ ?_).mono ?_; (repeat (first | exact Below.refl _ _ | exact hBw | refine Below.drew ?_ | refine below_drewN ?_ _ | refine bset ?_ (by simp <;> omega) _ | refine bal ?_ _)); rintro e w7 ⟨⟨v7, rfl, hv7⟩, hb7⟩; (have hBd : Below wy.heap.size wy w7 := bthen (by repeat (first | exact Below.refl _ _ | exact hBw | refine Below.drew ?_ | refine below_drewN ?_ _ | refine bset ?_ (by simp <;> omega) _ | refine bal ?_ _)) hb7; clear hBw; have hBw := hBd; clear hBd); obtain ⟨t0, t1⟩ := HS.out w7 hBw; have zt7 := cell_lt t0; have HV7 := Lib.hid (show PRow 0 w7 v7 l from hv7.row.rebase (Nat.zero_le _)); have hy7 := Below.refl w7.heap.size w7; obtain ⟨r7, q7, rfl⟩ := hv7.ex; clear hv7; have hc7 := (bcell hb7).1; have hf7 := (bcell hb7).2; have hs7 := hb7.size; (try simp [go_sem] at hs7); (try have qa : wy.heap.size < w7.heap.size := by omega))
          | (go_at_call 22; refine (VC.out _ _ (IsRow.keep lims_int HV7.out ?_)).mono ?_; (repeat (first | exact Below.refl _ _ | exact hy7 | refine Below.drew ?_ | refine below_drewN ?_ _ | refine bset ?_ (by simp <;> omega) _ | refine bal ?_ _)); rintro e w8 ⟨rfl, hb8⟩; (have hBd : Below wy.heap.size wy w8 := bthen (by repeat (first | exact Below.refl _ _ | exact hBw | refine Below.drew ?_ | refine below_drewN ?_ _ | refine bset ?_ (by simp <;> omega) _ | refine bal ?_ _)) hb8; clear hBw; have hBw := hBd; clear hBd); obtain ⟨t0, t1⟩ := HS.out w8 hBw; have zt8 := cell_lt t0; have hc8 := (bcell hb8).1; have hf8 := (bcell hb8).2; have hs8 := hb8.size; (try simp [go_sem] at hs8); (try have qa : wy.heap.size < w8.heap.size := by omega); skip)
          | fail))
        all_goals
          clear LX VC
          go_upto_region 23 with (fail)
          refine wp_name fun wn hWn => ?_
          have hBn : Below wy.heap.size wy wn := by rw [hWn]; repeat (first | exact Below.refl _ _ | exact hBw | refine Below.drew ?_ | refine below_drewN ?_ _ | refine bset ?_ (by simp <;> omega) _ | refine bal ?_ _)
          first
            | (refine z2new (isInt_zero w8) hWn (fun z0 z1 HZ => ?_); generalize w8.heap.size = X at z0 z1 ⊢)
            | (refine z2put (isInt_zero w8) (bkeep hb8 (cell_new rfl rfl)) (bkeep hb8 (cell_new rfl rfl)) hWn (fun z0 z1 HZ => ?_); generalize w7.heap.size = X at z0 z1 ⊢)
            | (refine z2put (isInt_zero w8) (bkeep hb8 (cell_drew (cell_new rfl rfl))) (bkeep hb8 (cell_drew (cell_new rfl rfl))) hWn (fun z0 z1 HZ => ?_); generalize w7.heap.size = X at z0 z1 ⊢)
            | (refine z2put (isInt_zero w8) (bkeep hb8 (bkeep hb7 (cell_new rfl rfl))) (bkeep hb8 (bkeep hb7 (cell_new rfl rfl))) hWn (fun z0 z1 HZ => ?_); generalize wy.heap.size = X at z0 z1 ⊢)
            | (refine z2put (isInt_zero w8) (bkeep hb8 (cell_drew (bkeep hb7 (cell_new rfl rfl)))) (bkeep hb8 (cell_drew (bkeep hb7 (cell_new rfl rfl)))) hWn (fun z0 z1 HZ => ?_); generalize wy.heap.size = X at z0 z1 ⊢)
            | (refine z2put (isInt_zero w8) (bkeep hb8 (bkeep hb7 (cell_drew (cell_new rfl rfl)))) (bkeep hb8 (bkeep hb7 (cell_drew (cell_new rfl rfl)))) hWn (fun z0 z1 HZ => ?_); generalize wy.heap.size = X at z0 z1 ⊢)
            | (refine z2put (isInt_zero w8) (bkeep hb8 (cell_drew (bkeep hb7 (cell_drew (cell_new rfl rfl))))) (bkeep hb8 (cell_drew (bkeep hb7 (cell_drew (cell_new rfl rfl))))) hWn (fun z0 z1 HZ => ?_); generalize wy.heap.size = X at z0 z1 ⊢)
          clear hWn hc7 hf7 hc8 hf8 hb7 hb8 HZ
          have hBz := bthen hBy hBn
          have zz := cell_lt z0
          obtain ⟨t0, t1⟩ := HS.out wn hBn
          have zt := cell_lt t0
          have hyn := Below.refl wn.heap.size wn
          go_wp2_with fail
          (with_reducible refine (IC.out _).mono ?_)
          rintro e w9 ⟨rfl, hb9⟩
          have hk9 : Below wn.heap.size wn w9 := bthen (by repeat (first | exact Below.refl _ _ | exact hyn | refine Below.drew ?_ | refine below_drewN ?_ _ | refine bset ?_ (by simp <;> omega) _ | refine bal ?_ _)) hb9
          have z09 := bkeep hk9 z0
          have z19 := bkeep hk9 z1
          have zz9 := cell_lt z09
          have hBz9 := bthen hBz hk9
          have hy9 := Below.refl w9.heap.size w9
          clear hk9 hb9 z0 z1 t0 t1 hBn IC
          go_wp2_with fail
          (with_reducible refine (SC.out _).mono ?_)
          rintro e w10 ⟨rfl, hb10⟩
          have hBf := bthen hBz9 (bthen (show Below w9.heap.size w9 _ by repeat (first | exact Below.refl _ _ | exact hy9 | refine Below.drew ?_ | refine below_drewN ?_ _ | refine bset ?_ (by simp <;> omega) _ | refine bal ?_ _)) hb10)
          clear SC hb10
          go_wp2
          exact ⟨⟨j + 1, hl, by go_num, by repeat (first | exact Below.refl _ _ | exact hBf | refine Below.drew ?_ | refine below_drewN ?_ _ | refine bset ?_ (by simp <;> omega) _ | refine bal ?_ _)⟩, measS hl (by go_num) rfl⟩
      have HPN := Lib.hid hpi
      have VC := Lib.hid (fun v V (hv : PRow 0 V v l) => value_c v l 64 pa pb V hv (by rw [HLN.out]; exact hp1) (by rw [HLN.out]; exact hp16) HPN.out HBI.out (by decide))
      have IC := Lib.hid (fun V => refIn9 pa pb true V (inB_yes hpi))
      have HBV := Lib.hid (hvL_bd9 hpi (by rw [HLN.out]; exact hp16) HBI.out)
      clear hpi
      go_region_law (go_simp; go_wp2_with (first
        | (go_at_call 16; refine (LX.out _ ?_).mono ?_; (repeat (first | exact Below.refl _ _ | exact hBw | refine Below.drew ?_ | refine below_drewN ?_ _ | refine bset ?_ (by simp <;> omega) _ | refine bal ?_ _)); rintro e w7 ⟨⟨v7, rfl, hv7⟩, hb7⟩; (have hBd : Below wy.heap.size wy w7 := bthen (by repeat (first | exact Below.refl _ _ | exact hBw | refine Below.drew ?_ | refine below_drewN ?_ _ | refine bset ?_ (by simp <;> omega) _ | refine bal ?_ _)) hb7; clear hBw; have hBw := hBd; clear hBd); obtain ⟨t0, t1⟩ := HS.out w7 hBw; have zt7 := cell_lt t0; have HV7 := Lib.hid (show PRow 0 w7 v7 l from hv7.row.rebase (Nat.zero_le _)); have hy7 := Below.refl w7.heap.size w7; obtain ⟨r7, q7, rfl⟩ := hv7.ex; clear hv7; have hc7 := (bcell hb7).1; have hf7 := (bcell hb7).2; have hs7 := hb7.size; (try simp [go_sem] at hs7); (try have qa : wy.heap.size < w7.heap.size := by omega))
        | (go_at_call 22; refine (VC.out _ _ (IsRow.keep lims_int HV7.out ?_)).mono ?_; (repeat (first | exact Below.refl _ _ | exact hy7 | refine Below.drew ?_ | refine below_drewN ?_ _ | refine bset ?_ (by simp <;> omega) _ | refine bal ?_ _)); rintro e w8 ⟨⟨u8, rfl, hu8⟩, hb8⟩; (have hBd : Below wy.heap.size wy w8 := bthen (by repeat (first | exact Below.refl _ _ | exact hBw | refine Below.drew ?_ | refine below_drewN ?_ _ | refine bset ?_ (by simp <;> omega) _ | refine bal ?_ _)) hb8; clear hBw; have hBw := hBd; clear hBd); obtain ⟨t0, t1⟩ := HS.out w8 hBw; have zt8 := cell_lt t0; have hc8 := (bcell hb8).1; have hf8 := (bcell hb8).2; have hs8 := hb8.size; (try simp [go_sem] at hs8); (try have qa : wy.heap.size < w8.heap.size := by omega); have HU8 := Lib.hid hu8; obtain ⟨un, ud, ul, uk, rfl⟩ := hu8.litE)
        | fail))
      all_goals
        clear LX VC
        go_upto_region 23 with (fail)
        refine wp_name fun wn hWn => ?_
        have hBn : Below wy.heap.size wy wn := by rw [hWn]; repeat (first | exact Below.refl _ _ | exact hBw | refine Below.drew ?_ | refine below_drewN ?_ _ | refine bset ?_ (by simp <;> omega) _ | refine bal ?_ _)
        first
          | (refine z2new HU8.out hWn (fun z0 z1 HZ => ?_); generalize w8.heap.size = X at z0 z1 ⊢)
          | (refine z2put HU8.out (bkeep hb8 (cell_new rfl rfl)) (bkeep hb8 (cell_new rfl rfl)) hWn (fun z0 z1 HZ => ?_); generalize w7.heap.size = X at z0 z1 ⊢)
          | (refine z2put HU8.out (bkeep hb8 (cell_drew (cell_new rfl rfl))) (bkeep hb8 (cell_drew (cell_new rfl rfl))) hWn (fun z0 z1 HZ => ?_); generalize w7.heap.size = X at z0 z1 ⊢)
          | (refine z2put HU8.out (bkeep hb8 (bkeep hb7 (cell_new rfl rfl))) (bkeep hb8 (bkeep hb7 (cell_new rfl rfl))) hWn (fun z0 z1 HZ => ?_); generalize wy.heap.size = X at z0 z1 ⊢)
          | (refine z2put HU8.out (bkeep hb8 (cell_drew (bkeep hb7 (cell_new rfl rfl)))) (bkeep hb8 (cell_drew (bkeep hb7 (cell_new rfl rfl)))) hWn (fun z0 z1 HZ => ?_); generalize wy.heap.size = X at z0 z1 ⊢)
          | (refine z2put HU8.out (bkeep hb8 (bkeep hb7 (cell_drew (cell_new rfl rfl)))) (bkeep hb8 (bkeep hb7 (cell_drew (cell_new rfl rfl)))) hWn (fun z0 z1 HZ => ?_); generalize wy.heap.size = X at z0 z1 ⊢)
          | (refine z2put HU8.out (bkeep hb8 (cell_drew (bkeep hb7 (cell_drew (cell_new rfl rfl))))) (bkeep hb8 (cell_drew (bkeep hb7 (cell_drew (cell_new rfl rfl))))) hWn (fun z0 z1 HZ => ?_); generalize wy.heap.size = X at z0 z1 ⊢)
        clear hWn hc7 hf7 hc8 hf8 hb7 hb8
        have hBz := bthen hBy hBn
        have zz := cell_lt z0
        obtain ⟨t0, t1⟩ := HS.out wn hBn
        have zt := cell_lt t0
        have hyn := Below.refl wn.heap.size wn
        go_wp2_with fail
        (with_reducible refine (IC.out _).mono ?_)
        rintro e w9 ⟨rfl, hb9⟩
        have hk9 : Below wn.heap.size wn w9 := bthen (by repeat (first | exact Below.refl _ _ | exact hyn | refine Below.drew ?_ | refine below_drewN ?_ _ | refine bset ?_ (by simp <;> omega) _ | refine bal ?_ _)) hb9
        have z09 := bkeep hk9 z0
        have z19 := bkeep hk9 z1
        have t09 := bkeep hk9 t0
        have t19 := bkeep hk9 t1
        have zz9 := cell_lt z09
        have zt9 := cell_lt t09
        have HZ9 := Lib.hid (HZ.out.keep hk9)
        have hBz9 := bthen hBz hk9
        have hBq := Below.refl w9.heap.size w9
        clear hk9 hb9 z0 z1 t0 t1 hBn IC HZ HS hBw
        have TX := Lib.hid (fun V (q : Below w9.heap.size w9 V) => intText_c (.agg #[.bool un, .slice ud ul uk]) (hvL l pa pb) 280 V (HZ9.out.keep q) HBV.out (by decide))
        have RF := Lib.hid (fun V (q : Below w9.heap.size w9 V) => ref11_c (.slice xa P xc) l V (HXI.out.keep (bthen HB4.out (bthen hBz9 q))) (by rw [HLN.out]; omega))
        have VL := Lib.hid (fun u V (hu : RRow 0 V u l) => rvalue_c u l 64 pa pb V hu (by rw [HLN.out]; exact hp16) HPN.out HBI.out (by decide))
        have TY := Lib.hid (fun u V (hu : IsRef V u (hvL l pa pb)) => rtext_c u (hvL l pa pb) 280 V hu HBV.out (by decide))
        have HS := Lib.hid (show ∀ V, Below w9.heap.size w9 V → V.cell? ⟨X, 0, none⟩ = some (.bool un) ∧ V.cell? ⟨X, 1, none⟩ = some (.slice ud ul uk) ∧ V.cell? ⟨wz.heap.size, 0, none⟩ = some (.int .i64 pa) ∧ V.cell? ⟨wz.heap.size, 1, none⟩ = some (.int .i64 pb) from fun V q => ⟨bkeep q z09, bkeep q z19, bkeep q t09, bkeep q t19⟩)
        go_wp2
        go_region_held3 (fun V => V.cell? ⟨X, 0, none⟩ = some (.bool un) ∧ V.cell? ⟨X, 1, none⟩ = some (.slice ud ul uk) ∧ V.cell? ⟨wz.heap.size, 0, none⟩ = some (.int .i64 pa) ∧ V.cell? ⟨wz.heap.size, 1, none⟩ = some (.int .i64 pb))
          (first | (refine HS.out _ ?_; (repeat (first | exact Below.refl _ _ | exact hBq | refine Below.drew ?_ | refine below_drewN ?_ _ | refine bset ?_ (by simp <;> omega) _ | refine bal ?_ _)); done) | fail)
          (first
            | (go_at_call 18; refine (TX.out _ ?_).mono ?_; (repeat (first | exact Below.refl _ _ | exact hBq | refine Below.drew ?_ | refine below_drewN ?_ _ | refine bset ?_ (by simp <;> omega) _ | refine bal ?_ _)); rintro e w17 ⟨rfl, hb17⟩; (have hBd : Below w9.heap.size w9 w17 := bthen (by repeat (first | exact Below.refl _ _ | exact hBq | refine Below.drew ?_ | refine below_drewN ?_ _ | refine bset ?_ (by simp <;> omega) _ | refine bal ?_ _)) hb17; clear hBq; have hBq := hBd; clear hBd))
            | (go_at_call 21; refine (RF.out _ ?_).mono ?_; (repeat (first | exact Below.refl _ _ | exact hBq | refine Below.drew ?_ | refine below_drewN ?_ _ | refine bset ?_ (by simp <;> omega) _ | refine bal ?_ _)); rintro e w18 ⟨⟨v8, rfl, hv8⟩, hb18⟩; (have hBd : Below w9.heap.size w9 w18 := bthen (by repeat (first | exact Below.refl _ _ | exact hBq | refine Below.drew ?_ | refine below_drewN ?_ _ | refine bset ?_ (by simp <;> omega) _ | refine bal ?_ _)) hb18; clear hBq; have hBq := hBd; clear hBd); have HV8 := Lib.hid (show RRow 0 w18 v8 l from hv8.row.rebase (Nat.zero_le _)); have hy18 := Below.refl w18.heap.size w18; obtain ⟨r8, q8, rfl⟩ := hv8.ex)
            | (go_at_call 20; refine (VL.out _ _ (HV8.out.keep lims_ref ?_)).mono ?_; (repeat (first | exact Below.refl _ _ | exact hy18 | refine Below.drew ?_ | refine below_drewN ?_ _ | refine bset ?_ (by simp <;> omega) _ | refine bal ?_ _)); rintro e w19 ⟨⟨v9, rfl, hv9⟩, hb19⟩; (have hBd : Below w9.heap.size w9 w19 := bthen (by repeat (first | exact Below.refl _ _ | exact hBq | refine Below.drew ?_ | refine below_drewN ?_ _ | refine bset ?_ (by simp <;> omega) _ | refine bal ?_ _)) hb19; clear hBq; have hBq := hBd; clear hBd); have HV9 := Lib.hid hv9; have hy19 := Below.refl w19.heap.size w19; obtain ⟨n9, a9, c9, l9, rfl, -⟩ := hv9; unfold iv at *)
            | (go_at_call 19; refine (TY.out _ _ (HV9.out.keep ?_)).mono ?_; (repeat (first | exact Below.refl _ _ | exact hy19 | refine Below.drew ?_ | refine below_drewN ?_ _ | refine bset ?_ (by simp <;> omega) _ | refine bal ?_ _)); rintro e w20 ⟨rfl, hb20⟩; (have hBd : Below w9.heap.size w9 w20 := bthen (by repeat (first | exact Below.refl _ _ | exact hBq | refine Below.drew ?_ | refine below_drewN ?_ _ | refine bset ?_ (by simp <;> omega) _ | refine bal ?_ _)) hb20; clear hBq; have hBq := hBd; clear hBd))
            | fail)
        all_goals
          have hB2 := bthen hBz9 hBq
          clear TX RF VL TY HS
          go_wp2
          exact ⟨⟨j + 1, hl, by go_num, by repeat (first | exact Below.refl _ _ | exact hB2 | refine Below.drew ?_ | refine below_drewN ?_ _ | refine bset ?_ (by simp <;> omega) _ | refine bal ?_ _)⟩, measS hl (by go_num) rfl⟩
    · obtain rfl : M = j := by omega
      have hltI : ¬ (M : Int) < (M : Int) := by omega
      have EQ := Lib.hid (fun V (q : Below wz.heap.size wz V) => eqPts_c (some ⟨b', 0, none⟩) a n c' cap f V (HI4.out.keep (bthen hBz q)) (HP.out.keep (bthen (bthen HB4.out hBz) q)) (by omega))
      have hB := bthen HB4.out hBz
      have hBw := Below.refl wz.heap.size wz
      go_wp2_with fail
      (with_reducible refine (EQ.out _ ?_).mono ?_); (repeat (first | exact Below.refl _ _ | exact hBw | refine Below.drew ?_ | refine below_drewN ?_ _ | refine bset ?_ (by simp <;> omega) _ | refine bal ?_ _))
      rintro e w20 ⟨rfl, hb20⟩
      have hBf := bthen hB (bthen (show Below wz.heap.size wz _ by repeat (first | exact Below.refl _ _ | exact hBw | refine Below.drew ?_ | refine below_drewN ?_ _ | refine bset ?_ (by simp <;> omega) _ | refine bal ?_ _)) hb20)
      clear EQ hb20
      go_wp2
      go_ret
      exact ⟨rfl, by repeat (first | exact Below.refl _ _ | exact hBf | refine Below.drew ?_ | refine below_drewN ?_ _ | refine bset ?_ (by simp <;> omega) _ | refine bal ?_ _)⟩
theorem evalValues_u (va : Value) (l : List Int) (pa : Option Addr) (n pc : Nat) (f : Nat → Int × Int) (w : World) (hx : RowI w va l) (bx : l.length ≤ 1152921504606846976) (wm : n * 16 ≤ 140737488351232) (h : PtsV w pa n pc f) (wi : ∀ i, i < n → I64 (f i).1 ∧ I64 (f i).2) (hT : Tz64 w) :
    Calls Tryz.prog 5 #[va, .slice pa n pc] w fun e w' => e = .returned (.bool true) ∧ Below w.heap.size w w' :=
  evalValues_h va l pa n pc f w hx h wm hT
end Go.Proofs.YtdllbdfchloijaaGreatDoor

