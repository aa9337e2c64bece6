/- The reference: clear: a column is cleared but for one row. -/
import Derived.Test.YtbmaffijncapiaaGreatDoorD30
import Derived.Test.YtbmaffijncapiaaGreatDoorD20
import Derived.Deep.RegionLaw
set_option linter.unusedVariables false
set_option linter.unusedSimpArgs false
namespace Go.Proofs.YtbmaffijncapiaaGreatDoor
open Num
open Go.ChangeShapes Go.WideShapes Go.ChangeAt Go.RowKit
set_option linter.unusedVariables false
set_option linter.unusedSimpArgs false
attribute [local go_sem ↓] Go.wp_at_zero Go.wp_at_succ
def VarFr (ub : Nat) (q : Rat) (W : World) : Prop := FrBlk IsQR 91 W ub 1 (fun _ => q)
theorem VarFr.at {ub : Nat} {q : Rat} {W : World} (h : VarFr ub q W) : FrC IsQR W ub 0 q := h.at_ 0 (by omega)
theorem VarFr.new {W : World} {g : Nat} {n1 n2 : Bool} {a1 a2 : Option Addr} {l1 c1 l2 c2 : Nat} {q : Rat} (hg : g = W.heap.size) (h : IsQR W (.agg #[.bool n1, .slice a1 l1 c1, .bool n2, .slice a2 l2 c2]) q) : VarFr g q (W.alloc (.cells #[.bool n1, .slice a1 l1 c1, .bool n2, .slice a2 l2 c2] 91)) := by
  subst hg
  refine ⟨typ_fresh rfl, Free.new rfl, fun k hk => ?_⟩
  obtain rfl : k = 0 := by omega
  exact ⟨n1, a1, l1, c1, n2, a2, l2, c2, cell_new rfl rfl, cell_new rfl rfl, cell_new rfl rfl, cell_new rfl rfl, h.keep (bal (Below.refl _ _) _)⟩
theorem outR_lim {base top B n m : Nat} {w w' : World} {bs : Nat → Nat} {g : Det.M} (h : FrRows base top B n m w bs g) (ho : Out (fun q => ∃ r, r < n ∧ q = bs r) w w') : Lim w w' :=
  (Kp.out (S := fun t => t ≠ 91) ho (fun q t hq ht => by obtain ⟨r, hr1, rfl⟩ := hq; rw [(h.blk r hr1).ty] at ht; cases ht; exact fun hh => hh rfl)).lim (by decide)
theorem far4o {w : World} {b g o i : Nat} {v : Value} (h : w.cell? ⟨b, i, none⟩ = some v) (hne : b ≠ g) (u0 u1 u2 u3 : Value) : ((((w.setCell ⟨g, o, none⟩ u0).setCell ⟨g, o + 1, none⟩ u1).setCell ⟨g, o + 2, none⟩ u2).setCell ⟨g, o + 3, none⟩ u3).cell? ⟨b, i, none⟩ = some v :=
  cell_far (cell_far (cell_far (cell_far h (addr_ne (Ne.symm hne)) _) (addr_ne (Ne.symm hne)) _) (addr_ne (Ne.symm hne)) _) (addr_ne (Ne.symm hne)) _
set_option maxRecDepth 100000 in
set_option maxHeartbeats 16000000 in
theorem clearQ_c (base top B n m row col K bc : Nat) (bs : Nat → Nat) (g : Det.M) (w : World) (h : FrRows base top B n m w bs g) (hr : row < n) (hc : col < m) (hp : g row col ≠ 0) (hb : BdR n m K g) (hK : K ≤ 4000000000) (htop : top ≤ w.heap.size) (hn : n ≤ 65536) (hm : m ≤ 65536) (hbc : n ≤ bc) :
    Calls Tryz.prog 154 #[.slice (some ⟨B, 0, none⟩) n bc, .int .i64 (row : Nat), .int .i64 (col : Nat)] w fun e w' => e = .returned (.tuple #[]) ∧ FrRows base top B n m w' bs (Det.clr g row col) ∧ Out (fun q => ∃ r, r < n ∧ q = bs r) w w' := by
  have HR := Lib.hid h
  have HBD := Lib.hid hb
  have HP := Lib.hid hp
  obtain ⟨cr, hcr, hmr⟩ := h.cell row hr
  obtain ⟨m1, x1, k1, d1, m2, x2, k2, d2, p0, p1, p2, p3, pI⟩ := (h.blk row hr).at_ col hc
  have HPI := Lib.hid pI
  have zB := cell_lt hcr
  have zp := cell_lt p0
  have hrI : (row : Int) < (n : Int) := by omega
  have hcI : (col : Int) < (m : Int) := by omega
  have hB := Below.refl w.heap.size w
  clear h hb hp pI
  go_enter Tryz.func154, Tryz.ntmps154
  go_wp2
  refine wp_name fun w1 hW1 => ?_
  have hb1 : Below w.heap.size w w1 := by rw [hW1]; repeat (first|exact bzR _ _|exact hB|refine bzD ?_|refine bzN ?_|refine bzS ?_|refine bzA ?_)
  have HV1 := Lib.hid (show VarFr w.heap.size (g row col) w1 from by rw [hW1]; exact VarFr.new rfl HPI.out)
  have HR1 := Lib.hid (HR.out.keep hb1)
  have HO1 := Lib.hid (show Out (fun q => ∃ r, r < n ∧ q = bs r) w w1 from Out.of_below _ hb1)
  have hnx : ∀ q, top ≤ q → ¬ ∃ r, r < n ∧ q = bs r := fun q hq ⟨r, h1, h2⟩ => by have := HR1.out.hib r h1; omega
  have HNX := Lib.hid hnx
  obtain ⟨vb, hvb⟩ : ∃ b, w.heap.size = b := ⟨_, rfl⟩
  rw [hvb] at HV1 htop ⊢
  have HVB := Lib.hid hvb
  clear hW1 hcr p0 p1 p2 p3 HR hb1 hB HPI zB zp hnx hvb hmr
  go_loopw [7] (fun x wr => ∃ c : Nat, c ≤ m ∧ x = .int .i64 c ∧ Out (fun q => ∃ r, r < n ∧ q = bs r) w1 wr ∧ Hid (FrRows base top B n m wr bs (gP g row col c))) (fun x _ => m - (intOf x).toNat)
  case atStart => exact ⟨0, Nat.zero_le _, rfl, Out.refl _ _, Lib.hid (HR1.out.congr fun r c _ _ => by unfold gP; rw [if_neg (by omega)])⟩
  case round =>
    obtain ⟨c, hcm, rfl, hO, hRr⟩ := hrel
    obtain ⟨cr, hcr, hmr⟩ := hRr.out.cell row hr
    have zB := cell_lt hcr
    by_cases hlt : c < m
    · have hltI : (c : Int) < (m : Int) := by omega
      have HL := Lib.hid (outR_lim HR1.out hO)
      have HVr := Lib.hid (show VarFr vb (g row col) wr from FrBlk.out frk_ref HV1.out hO (HNX.out vb htop) HL.out)
      obtain ⟨v1, y1, s1, t1, v2, y2, s2, t2, q0, q1, q2, q3, qI⟩ := HVr.out.at
      have HQI := Lib.hid qI
      have hbl := hRr.out.blk row hr
      have hfr := hbl.fr.2
      obtain ⟨f1, z1, u1, i1, f2, z2, u2, i2, e0, e1, e2, e3, eI⟩ := hbl.at_ c hlt
      have hv : gP g row col c row c = g row c := by unfold gP; rw [if_neg (by omega)]
      rw [hv] at eI
      have HEI := Lib.hid eI
      have OC := Lib.hid (fun V (q : Below wr.heap.size wr V) => rqOver_c (.agg #[.bool f1, .slice z1 u1 i1, .bool f2, .slice z2 u2 i2]) (.agg #[.bool v1, .slice y1 s1 t1, .bool v2, .slice y2 s2 t2]) (g row c) (g row col) K K V (HEI.out.keep q) (HQI.out.keep q) (HBD.out row c hr hlt) (HBD.out row col hr hc) (by omega) HP.out)
      have HS := Lib.hid (show ∀ V, Below wr.heap.size wr V → (V.cell? ⟨B, row, none⟩ = some (.slice (some ⟨bs row, 0, none⟩) m cr)) ∧ (V.cell? ⟨bs row, c * 4, none⟩ = some (.bool f1) ∧ V.cell? ⟨bs row, c * 4 + 1, none⟩ = some (.slice z1 u1 i1) ∧ V.cell? ⟨bs row, c * 4 + 2, none⟩ = some (.bool f2) ∧ V.cell? ⟨bs row, c * 4 + 3, none⟩ = some (.slice z2 u2 i2)) ∧ (V.cell? ⟨vb, 0, none⟩ = some (.bool v1) ∧ V.cell? ⟨vb, 1, none⟩ = some (.slice y1 s1 t1) ∧ V.cell? ⟨vb, 2, none⟩ = some (.bool v2) ∧ V.cell? ⟨vb, 3, none⟩ = some (.slice y2 s2 t2)) ∧ (V.frozen? ⟨bs row, c * 4, none⟩ = false ∧ V.frozen? ⟨bs row, c * 4 + 1, none⟩ = false ∧ V.frozen? ⟨bs row, c * 4 + 2, none⟩ = false ∧ V.frozen? ⟨bs row, c * 4 + 3, none⟩ = false) from fun V q => ⟨bkeep q hcr, ⟨bkeep q e0, bkeep q e1, bkeep q e2, bkeep q e3⟩, ⟨bkeep q q0, bkeep q q1, bkeep q q2, bkeep q q3⟩, ⟨bkeepf q e0 (hfr _), bkeepf q e1 (hfr _), bkeepf q e2 (hfr _), bkeepf q e3 (hfr _)⟩⟩)
      have ze := cell_lt e0
      have zq := cell_lt q0
      have hBw := Below.refl wr.heap.size wr
      clear qI eI hv hbl hfr
      go_upto_region 4 with (fail)
      go_region_law (go_simp; go_wp2_with (first
        | (go_at_call 221; (with_reducible refine (OC.out _ ?_).mono ?_); (repeat (first|exact bzR _ _|exact hBw|refine bzD ?_|refine bzN ?_|refine bzS ?_|refine bzA ?_)); rintro e w5 ⟨⟨u5, rfl, hu5⟩, hb5⟩; (have hBd : Below wr.heap.size wr w5 := bthen (by repeat (first|exact bzR _ _|exact hBw|refine bzD ?_|refine bzN ?_|refine bzS ?_|refine bzA ?_)) hb5; clear hBw; have hBw := hBd; clear hBd); obtain ⟨hcr, ⟨e0, e1, e2, e3⟩, ⟨q0, q1, q2, q3⟩, ⟨e0f, e1f, e2f, e3f⟩⟩ := HS.out w5 hBw; have ze5 := cell_lt e0; have zq5 := cell_lt q0; have zB5 := cell_lt hcr; have HU := Lib.hid hu5; obtain ⟨nn1, aa1, ll1, cc1, nn2, aa2, ll2, cc2, rfl, -, -⟩ := hu5)
        | fail))
      all_goals
        have HRn := Lib.hid (((hRr.out.keep hBw).put hr hlt HU.out).congr (fun r c' _ _ => congrFun (congrFun (gP_put g row col) r) c'))
        have HOn := Lib.hid (((((hO.below hBw).set (p := ⟨bs row, c * 4, none⟩) (fun _ => ⟨row, hr, rfl⟩) (.bool nn1)).set (p := ⟨bs row, c * 4 + 1, none⟩) (fun _ => ⟨row, hr, rfl⟩) (.slice aa1 ll1 cc1)).set (p := ⟨bs row, c * 4 + 2, none⟩) (fun _ => ⟨row, hr, rfl⟩) (.bool nn2)).set (p := ⟨bs row, c * 4 + 3, none⟩) (fun _ => ⟨row, hr, rfl⟩) (.slice aa2 ll2 cc2))
        clear OC HS HU
        go_wp2
        exact ⟨⟨c + 1, hlt, by go_num, HOn.out, HRn⟩, meas hlt (by go_num) rfl⟩
    · obtain rfl : c = m := by omega
      have hltI : ¬ (c : Int) < (c : Int) := by omega
      have HRp := Lib.hid (hRr.out.congr fun r c' hr' hc' => gC_start g row col (n := n) hr' hc')
      have HOp := Lib.hid hO
      clear hRr hO hmr hlt hcm
      go_wp2
      go_loopw [8] (fun x wz => ∃ i : Nat, i ≤ n ∧ x = .int .i64 i ∧ Out (fun q => ∃ r, r < n ∧ q = bs r) w1 wz ∧ Hid (FrRows base top B n c wz bs (gC g row col i 0))) (fun x _ => n - (intOf x).toNat)
      case atStart => exact ⟨0, Nat.zero_le _, by go_num, HOp.out, HRp⟩
      case round =>
        rename World => wz
        obtain ⟨i, hin, rfl, hO, hRr⟩ := hrel
        by_cases hlt : i < n
        · have hiI : (i : Int) < (n : Int) := by omega
          obtain ⟨ci, hci, hmi⟩ := hRr.out.cell i hlt
          have zB := cell_lt hci
          obtain ⟨f1, z1, u1, i1, f2, z2, u2, i2, e0, e1, e2, e3, eI⟩ := (hRr.out.blk i hlt).at_ col hc
          have ze := cell_lt e0
          have HEI := Lib.hid eI
          have hBw := Below.refl wz.heap.size wz
          clear eI
          by_cases hir : i = row
          · have dI : ((i : Int) == (row : Int)) = true := by simp [hir]
            have HSK := Lib.hid (hRr.out.congr fun r c' hr' hc' => gC_skip g row col (r := r) (c := c') (.inl hir))
            clear hir
            go_wp2
            exact ⟨⟨i + 1, hlt, by go_num, hO.below (by repeat (first|exact bzR _ _|exact hBw|refine bzD ?_|refine bzN ?_|refine bzS ?_|refine bzA ?_)), Lib.hid (HSK.out.keep (by repeat (first|exact bzR _ _|exact hBw|refine bzD ?_|refine bzN ?_|refine bzS ?_|refine bzA ?_)))⟩, meas hlt (by go_num) rfl⟩
          have dI : ((i : Int) == (row : Int)) = false := by simpa using (show ¬ (i : Int) = (row : Int) by omega)
          have hval : gC g row col i 0 i col = g i col := by unfold gC; rw [if_neg hir, if_neg (by omega)]
          rw [hval] at HEI
          have SC := Lib.hid (fun V (q : Below wz.heap.size wz V) => rqSign_c (.agg #[.bool f1, .slice z1 u1 i1, .bool f2, .slice z2 u2 i2]) (g i col) V (HEI.out.keep q))
          by_cases h0 : g i col = 0
          · rw [h0, show (0 : Rat).num.sign = 0 from rfl] at SC
            have HSK := Lib.hid (hRr.out.congr fun r c' hr' hc' => gC_skip g row col (r := r) (c := c') (.inr h0))
            clear h0 hval HEI
            go_wp2_with fail
            (with_reducible refine (SC.out _ ?_).mono ?_); (repeat (first|exact bzR _ _|exact hBw|refine bzD ?_|refine bzN ?_|refine bzS ?_|refine bzA ?_))
            rintro e w3 ⟨rfl, hb3⟩
            have hk3 : Below wz.heap.size wz w3 := bthen (by repeat (first|exact bzR _ _|exact hBw|refine bzD ?_|refine bzN ?_|refine bzS ?_|refine bzA ?_)) hb3
            clear SC hb3
            go_wp2
            exact ⟨⟨i + 1, hlt, by go_num, hO.below (by repeat (first|exact bzR _ _|exact hk3|refine bzD ?_|refine bzN ?_|refine bzS ?_|refine bzA ?_)), Lib.hid (HSK.out.keep (by repeat (first|exact bzR _ _|exact hk3|refine bzD ?_|refine bzN ?_|refine bzS ?_|refine bzA ?_)))⟩, meas hlt (by go_num) rfl⟩
          · obtain ⟨z, hz⟩ : ∃ z, (g i col).num.sign = z := ⟨_, rfl⟩
            have hz0 : z ≠ 0 := fun e => h0 (by rw [e] at hz; exact Rat.num_eq_zero.1 (Int.sign_eq_zero_iff_zero.1 hz))
            have dZ : (z == 0) = false := by simpa using hz0
            rw [hz] at SC
            clear hz h0 hval
            have hlim2 : bs row ≠ B := hRr.out.neB hr
            clear hlim2
            go_wp2_with fail
            (with_reducible refine (SC.out _ ?_).mono ?_); (repeat (first|exact bzR _ _|exact hBw|refine bzD ?_|refine bzN ?_|refine bzS ?_|refine bzA ?_))
            rintro e w3 ⟨rfl, hb3⟩
            have hk3 : Below wz.heap.size wz w3 := bthen (by repeat (first|exact bzR _ _|exact hBw|refine bzD ?_|refine bzN ?_|refine bzS ?_|refine bzA ?_)) hb3
            have HV3 := Lib.hid (show VarFr wz.heap.size (g i col) w3 from FrBlk.keep frk_ref (VarFr.new rfl HEI.out) hb3)
            have HR3 := Lib.hid (hRr.out.keep hk3)
            have HO3 := Lib.hid (hO.below hk3)
            have hnf : top ≤ wz.heap.size := by have := hO.size; have := typ_lt HV1.out.ty; omega
            obtain ⟨fb, hfb⟩ : ∃ b, wz.heap.size = b := ⟨_, rfl⟩
            rw [hfb] at HV3 hnf ⊢
            clear SC hb3 hk3 hfb hci hmi zB e0 e1 e2 e3 ze HEI hBw hz0 hRr hO
            go_wp2
            go_loopw [10] (fun x wq => ∃ c' : Nat, c' ≤ c ∧ x = .int .i64 c' ∧ Out (fun q => ∃ r, r < n ∧ q = bs r) w3 wq ∧ Hid (FrRows base top B n c wq bs (gC g row col i c'))) (fun x _ => c - (intOf x).toNat)
            case atStart => exact ⟨0, Nat.zero_le _, by go_num, Out.refl _ _, HR3⟩
            case round =>
              rename World => wq
              obtain ⟨c', hcm, rfl, hOq, hRq⟩ := hrel
              obtain ⟨ci, hci, hmi⟩ := hRq.out.cell i hlt
              have zB := cell_lt hci
              by_cases hl2 : c' < c
              · have hl2I : (c' : Int) < (c : Int) := by omega
                obtain ⟨cr, hcr, hmr⟩ := hRq.out.cell row hr
                have HL := Lib.hid (outR_lim HR3.out hOq)
                have HVq := Lib.hid (show VarFr fb (g i col) wq from FrBlk.out frk_ref HV3.out hOq (HNX.out fb hnf) HL.out)
                obtain ⟨v1, y1, s1, t1, v2, y2, s2, t2, q0, q1, q2, q3, qI⟩ := HVq.out.at
                have HQI := Lib.hid qI
                have hbl := hRq.out.blk i hlt
                have hfr := hbl.fr.2
                obtain ⟨f1, z1, u1, i1, f2, z2, u2, i2, e0, e1, e2, e3, eI⟩ := hbl.at_ c' hl2
                obtain ⟨p1, a1, m1, k1, p2, a2, m2, k2, r0, r1, r2, r3, rI⟩ := (hRq.out.blk row hr).at_ c' hl2
                have hv : gC g row col i c' i c' = g i c' := by unfold gC; rw [if_neg hir, if_neg (by omega)]
                have hv2 : gC g row col i c' row c' = g row c' / g row col := by unfold gC; rw [if_pos rfl]
                rw [hv] at eI
                rw [hv2] at rI
                have HEI := Lib.hid eI
                have HRI := Lib.hid rI
                have MC := Lib.hid (fun V (q : Below wq.heap.size wq V) => rqMul_c (.agg #[.bool v1, .slice y1 s1 t1, .bool v2, .slice y2 s2 t2]) (.agg #[.bool p1, .slice a1 m1 k1, .bool p2, .slice a2 m2 k2]) (g i col) (g row c' / g row col) K (K + K) V (HQI.out.keep q) (HRI.out.keep q) (HBD.out i col hlt hc) (BdQ.div (HBD.out row c' hr hl2) (HBD.out row col hr hc) HP.out) (by omega) rfl)
                have SC := Lib.hid (fun v V (q : Below wq.heap.size wq V) (hv : IsQR V v (g i col * (g row c' / g row col))) => rqSub_c (.agg #[.bool f1, .slice z1 u1 i1, .bool f2, .slice z2 u2 i2]) v (g i c') (g i col * (g row c' / g row col)) K (K + (K + K)) V (HEI.out.keep q) hv (HBD.out i c' hlt hl2) (BdQ.mul (HBD.out i col hlt hc) (BdQ.div (HBD.out row c' hr hl2) (HBD.out row col hr hc) HP.out)) (by omega))
                have HS := Lib.hid (show ∀ V, Below wq.heap.size wq V → (V.cell? ⟨B, i, none⟩ = some (.slice (some ⟨bs i, 0, none⟩) c ci) ∧ V.cell? ⟨B, row, none⟩ = some (.slice (some ⟨bs row, 0, none⟩) c cr) ∧ V.cell? ⟨fb, 0, none⟩ = some (.bool v1) ∧ V.cell? ⟨fb, 1, none⟩ = some (.slice y1 s1 t1) ∧ V.cell? ⟨fb, 2, none⟩ = some (.bool v2) ∧ V.cell? ⟨fb, 3, none⟩ = some (.slice y2 s2 t2) ∧ V.cell? ⟨bs row, c' * 4, none⟩ = some (.bool p1) ∧ V.cell? ⟨bs row, c' * 4 + 1, none⟩ = some (.slice a1 m1 k1) ∧ V.cell? ⟨bs row, c' * 4 + 2, none⟩ = some (.bool p2) ∧ V.cell? ⟨bs row, c' * 4 + 3, none⟩ = some (.slice a2 m2 k2)) ∧ (V.cell? ⟨bs i, c' * 4, none⟩ = some (.bool f1) ∧ V.cell? ⟨bs i, c' * 4 + 1, none⟩ = some (.slice z1 u1 i1) ∧ V.cell? ⟨bs i, c' * 4 + 2, none⟩ = some (.bool f2) ∧ V.cell? ⟨bs i, c' * 4 + 3, none⟩ = some (.slice z2 u2 i2) ∧ V.frozen? ⟨bs i, c' * 4, none⟩ = false ∧ V.frozen? ⟨bs i, c' * 4 + 1, none⟩ = false ∧ V.frozen? ⟨bs i, c' * 4 + 2, none⟩ = false ∧ V.frozen? ⟨bs i, c' * 4 + 3, none⟩ = false) from fun V q => ⟨⟨bkeep q hci, bkeep q hcr, bkeep q q0, bkeep q q1, bkeep q q2, bkeep q q3, bkeep q r0, bkeep q r1, bkeep q r2, bkeep q r3⟩, ⟨bkeep q e0, bkeep q e1, bkeep q e2, bkeep q e3, bkeepf q e0 (hfr _), bkeepf q e1 (hfr _), bkeepf q e2 (hfr _), bkeepf q e3 (hfr _)⟩⟩)
                have hrI : (row : Int) < (n : Int) := by omega
                have ze := cell_lt e0
                have zq := cell_lt q0
                have zr := cell_lt r0
                have hBw := Below.refl wq.heap.size wq
                have HCS := Lib.hid (fun V (k : Below wq.heap.size wq V) => (HS.out V k).1)
                have hneB : B ≠ bs i := fun e => hRq.out.neB hlt e.symm
                have hnef : fb ≠ bs i := fun e => HNX.out fb hnf ⟨i, hlt, e⟩
                have hner : bs row ≠ bs i := fun e => hir (hRq.out.inj _ _ hr hlt e).symm
                clear qI eI rI hv hv2 hbl hfr
                go_upto_region 13 with (fail)
                refine wp_region_held_drew (S := (fun V => V.cell? ⟨B, i, none⟩ = some (.slice (some ⟨bs i, 0, none⟩) c ci) ∧ V.cell? ⟨B, row, none⟩ = some (.slice (some ⟨bs row, 0, none⟩) c cr) ∧ V.cell? ⟨fb, 0, none⟩ = some (.bool v1) ∧ V.cell? ⟨fb, 1, none⟩ = some (.slice y1 s1 t1) ∧ V.cell? ⟨fb, 2, none⟩ = some (.bool v2) ∧ V.cell? ⟨fb, 3, none⟩ = some (.slice y2 s2 t2) ∧ V.cell? ⟨bs row, c' * 4, none⟩ = some (.bool p1) ∧ V.cell? ⟨bs row, c' * 4 + 1, none⟩ = some (.slice a1 m1 k1) ∧ V.cell? ⟨bs row, c' * 4 + 2, none⟩ = some (.bool p2) ∧ V.cell? ⟨bs row, c' * 4 + 3, none⟩ = some (.slice a2 m2 k2))) (by kernel_rfl) (HCS.out _ (Below.refl _ _).drew) (fun hHeld => ?_)
                refine wpAnyH_take (i := 0) (v := ?_) rfl (by kernel_rfl) (by kernel_rfl) (by kernel_rfl) (fun _ _ _ h => h) (Or.inl ⟨by rfl, ?_⟩) (by assumption) ?_
                rotate_left
                · intro w hSw
                  try dsimp only at hSw
                  try go_simp
                  try with_reducible rfl
                try simp only [Act.put, List.setIfInBounds_toArray, List.set_cons_zero, List.set_cons_succ]
                refine wpAnyH_take (i := 1) (v := ?_) rfl (by kernel_rfl) (by kernel_rfl) (by kernel_rfl) (fun _ _ _ h => h) (Or.inl ⟨by rfl, ?_⟩) (by assumption) ?_
                rotate_left
                · intro w hSw
                  try dsimp only at hSw
                  try go_simp
                  try with_reducible rfl
                try simp only [Act.put, List.setIfInBounds_toArray, List.set_cons_zero, List.set_cons_succ]
                refine wpAnyH_take (i := 2) (v := ?_) rfl (by kernel_rfl) (by kernel_rfl) (by kernel_rfl) (fun _ _ _ h => h) (Or.inl ⟨by rfl, ?_⟩) (by assumption) ?_
                rotate_left
                · intro w hSw
                  try dsimp only at hSw
                  try go_simp
                  try with_reducible rfl
                try simp only [Act.put, List.setIfInBounds_toArray, List.set_cons_zero, List.set_cons_succ]
                refine wpAnyH_take (i := 3) (v := ?_) rfl (by kernel_rfl) (by kernel_rfl) (by kernel_rfl) (fun _ _ _ h => h) (Or.inl ⟨by rfl, ?_⟩) (by assumption) ?_
                rotate_left
                · intro w hSw
                  try dsimp only at hSw
                  try go_simp
                  try with_reducible rfl
                try simp only [Act.put, List.setIfInBounds_toArray, List.set_cons_zero, List.set_cons_succ]
                refine wpAnyH_take (i := 4) (v := ?_) rfl (by kernel_rfl) (by kernel_rfl) (by kernel_rfl) (fun _ _ _ h => h) (Or.inl ⟨by rfl, ?_⟩) (by assumption) ?_
                rotate_left
                · intro w hSw
                  try dsimp only at hSw
                  try go_simp
                  try with_reducible rfl
                try simp only [Act.put, List.setIfInBounds_toArray, List.set_cons_zero, List.set_cons_succ]
                refine wpAnyH_take (i := 5) (v := ?_) rfl (by kernel_rfl) (by kernel_rfl) (by kernel_rfl) (fun _ _ _ h => h) (Or.inl ⟨by rfl, ?_⟩) (by assumption) ?_
                rotate_left
                · intro w hSw
                  try dsimp only at hSw
                  try go_simp
                  try with_reducible rfl
                try simp only [Act.put, List.setIfInBounds_toArray, List.set_cons_zero, List.set_cons_succ]
                refine wpAnyH_take (i := 6) (v := ?_) rfl (by kernel_rfl) (by kernel_rfl) (by kernel_rfl) (fun _ _ _ h => h) (Or.inl ⟨by rfl, ?_⟩) (by assumption) ?_
                rotate_left
                · intro w hSw
                  try dsimp only at hSw
                  try go_simp
                  try with_reducible rfl
                try simp only [Act.put, List.setIfInBounds_toArray, List.set_cons_zero, List.set_cons_succ]
                refine wpAnyH_take (i := 7) (v := ?_) rfl (by kernel_rfl) (by kernel_rfl) (by kernel_rfl) (fun _ _ _ h => h) (Or.inl ⟨by rfl, ?_⟩) (by assumption) ?_
                rotate_left
                · intro w hSw
                  try dsimp only at hSw
                  try go_simp
                  try with_reducible rfl
                try simp only [Act.put, List.setIfInBounds_toArray, List.set_cons_zero, List.set_cons_succ]
                refine wpAnyH_take (i := 8) (v := ?_) rfl (by kernel_rfl) (by kernel_rfl) (by kernel_rfl) (fun _ _ _ h => h) (Or.inl ⟨by rfl, ?_⟩) (by assumption) ?_
                rotate_left
                · intro w hSw
                  try dsimp only at hSw
                  try go_simp
                  try with_reducible rfl
                try simp only [Act.put, List.setIfInBounds_toArray, List.set_cons_zero, List.set_cons_succ]
                refine wpAnyH_take (i := 9) (v := ?_) rfl (by kernel_rfl) (by kernel_rfl) (by kernel_rfl) (fun _ _ _ h => h) (Or.inl ⟨by rfl, ?_⟩) (by assumption) ?_
                rotate_left
                · intro w hSw
                  try dsimp only at hSw
                  try go_simp
                  try with_reducible rfl
                try simp only [Act.put, List.setIfInBounds_toArray, List.set_cons_zero, List.set_cons_succ]
                refine wpAnyH_take (i := 10) (v := ?_) rfl (by kernel_rfl) (by kernel_rfl) (by kernel_rfl) (fun _ _ _ h => h) (Or.inl ⟨by rfl, ?_⟩) (by assumption) ?_
                rotate_left
                · intro w hSw
                  try dsimp only at hSw
                  try go_simp
                  try with_reducible rfl
                try simp only [Act.put, List.setIfInBounds_toArray, List.set_cons_zero, List.set_cons_succ]
                refine wpAnyH_take (i := 12) (v := ?_) rfl (by kernel_rfl) (by kernel_rfl) (by kernel_rfl) (fun _ _ _ h => h) (Or.inl ⟨by rfl, ?_⟩) (by assumption) ?_
                rotate_left
                · intro w hSw
                  try dsimp only at hSw
                  try go_simp
                  try with_reducible rfl
                try simp only [Act.put, List.setIfInBounds_toArray, List.set_cons_zero, List.set_cons_succ]
                refine wpAnyH_take (i := 13) (v := ?_) rfl (by kernel_rfl) (by kernel_rfl) (by kernel_rfl) (fun _ _ _ h => h) (Or.inl ⟨by rfl, ?_⟩) (by assumption) ?_
                rotate_left
                · intro w hSw
                  try dsimp only at hSw
                  try go_simp
                  try with_reducible rfl
                try simp only [Act.put, List.setIfInBounds_toArray, List.set_cons_zero, List.set_cons_succ]
                refine wpAnyH_take (i := 14) (v := ?_) rfl (by kernel_rfl) (by kernel_rfl) (by kernel_rfl) (fun _ _ _ h => h) (Or.inl ⟨by rfl, ?_⟩) (by assumption) ?_
                rotate_left
                · intro w hSw
                  try dsimp only at hSw
                  try go_simp
                  try with_reducible rfl
                try simp only [Act.put, List.setIfInBounds_toArray, List.set_cons_zero, List.set_cons_succ]
                refine wpAnyH_take (i := 15) (v := ?_) rfl (by kernel_rfl) (by kernel_rfl) (by kernel_rfl) (fun _ _ _ h => h) (Or.inl ⟨by rfl, ?_⟩) (by assumption) ?_
                rotate_left
                · intro w hSw
                  try dsimp only at hSw
                  try go_simp
                  try with_reducible rfl
                try simp only [Act.put, List.setIfInBounds_toArray, List.set_cons_zero, List.set_cons_succ]
                refine wpAnyH_take (i := 16) (v := ?_) rfl (by kernel_rfl) (by kernel_rfl) (by kernel_rfl) (fun _ _ _ h => h) (Or.inl ⟨by rfl, ?_⟩) (by assumption) ?_
                rotate_left
                · intro w hSw
                  try dsimp only at hSw
                  try go_simp
                  try with_reducible rfl
                try simp only [Act.put, List.setIfInBounds_toArray, List.set_cons_zero, List.set_cons_succ]
                refine wpAnyH_take (i := 17) (v := ?_) rfl (by kernel_rfl) (by kernel_rfl) (by kernel_rfl) (fun _ _ _ h => h) (Or.inl ⟨by rfl, ?_⟩) (by assumption) ?_
                rotate_left
                · intro w hSw
                  try dsimp only at hSw
                  try go_simp
                  try with_reducible rfl
                try simp only [Act.put, List.setIfInBounds_toArray, List.set_cons_zero, List.set_cons_succ]
                refine wpAnyH_take (i := 18) (v := ?_) rfl (by kernel_rfl) (by kernel_rfl) (by kernel_rfl) (fun _ _ _ h => h) (Or.inl ⟨by rfl, ?_⟩) (by assumption) ?_
                rotate_left
                · intro w hSw
                  try dsimp only at hSw
                  try go_simp
                  try with_reducible rfl
                try simp only [Act.put, List.setIfInBounds_toArray, List.set_cons_zero, List.set_cons_succ]
                refine wpAnyH_take (i := 19) (v := ?_) rfl (by kernel_rfl) (by kernel_rfl) (by kernel_rfl) (fun _ _ _ h => h) (Or.inl ⟨by rfl, ?_⟩) (by assumption) ?_
                rotate_left
                · intro w hSw
                  try dsimp only at hSw
                  try go_simp
                  try with_reducible rfl
                try simp only [Act.put, List.setIfInBounds_toArray, List.set_cons_zero, List.set_cons_succ]
                refine wpAnyH_ready (rs := [11, 20]) (by kernel_rfl) (by simp) ?_
                refine AllReadyH.cons rfl (fun K hK => ?_) (AllReadyH.cons rfl (fun K hK => ?_) AllReadyH.nil)
                · go_simp
                  refine hK.out _ _ ?_ (fun hHeld => ?_)
                  · exact HCS.out _ (by repeat (first|exact bzR _ _|exact hBw|refine bzD ?_|refine bzN ?_|refine bzS ?_|refine bzA ?_))
                  clear hK K
                  try simp only [Act.put, List.setIfInBounds_toArray, List.set_cons_zero, List.set_cons_succ]
                  refine wpAnyH_ready (rs := [20]) (by kernel_rfl) (by simp) ?_
                  refine AllReadyH.cons rfl (fun K hK => ?_) AllReadyH.nil
                  try go_simp
                  go_at_call 153; (with_reducible refine (MC.out _ ?_).mono ?_); (repeat (first|exact bzR _ _|exact hBw|refine bzD ?_|refine bzN ?_|refine bzS ?_|refine bzA ?_)); rintro e w5 ⟨⟨u5, rfl, hu5⟩, hb5⟩; (have hBd : Below wq.heap.size wq w5 := bthen (by repeat (first|exact bzR _ _|exact hBw|refine bzD ?_|refine bzN ?_|refine bzS ?_|refine bzA ?_)) hb5; clear hBw; have hBw := hBd; clear hBd); obtain ⟨⟨hci, hcr, q0, q1, q2, q3, r0, r1, r2, r3⟩, ⟨e0, e1, e2, e3, e0f, e1f, e2f, e3f⟩⟩ := HS.out w5 hBw; have ze5 := cell_lt e0; have zB5 := cell_lt hci; have HU := Lib.hid hu5; have hy5 := Below.refl w5.heap.size w5; obtain ⟨nn1, aa1, ll1, cc1, nn2, aa2, ll2, cc2, rfl, -, -⟩ := hu5
                  try go_wp2_with fail
                  refine hK.out _ _ ?_ (fun hHeld => ?_)
                  · exact HCS.out _ (by repeat (first|exact bzR _ _|exact hBw|refine bzD ?_|refine bzN ?_|refine bzS ?_|refine bzA ?_))
                  clear hK K
                  try simp only [Act.put, List.setIfInBounds_toArray, List.set_cons_zero, List.set_cons_succ]
                  refine wpAnyH_ready (rs := [21]) (by kernel_rfl) (by simp) ?_
                  refine AllReadyH.cons rfl (fun K hK => ?_) AllReadyH.nil
                  try go_simp
                  go_at_call 222; (with_reducible refine (SC.out _ _ ?_ (HU.out.keep ?_)).mono ?_); (repeat (first|exact bzR _ _|exact hBw|refine bzD ?_|refine bzN ?_|refine bzS ?_|refine bzA ?_)); (repeat (first|exact bzR _ _|exact hy5|refine bzD ?_|refine bzN ?_|refine bzS ?_|refine bzA ?_)); rintro e w6 ⟨⟨u6, rfl, hu6⟩, hb6⟩; (have hBd : Below wq.heap.size wq w6 := bthen (by repeat (first|exact bzR _ _|exact hBw|refine bzD ?_|refine bzN ?_|refine bzS ?_|refine bzA ?_)) hb6; clear hBw; have hBw := hBd; clear hBd); obtain ⟨⟨hci, hcr, q0, q1, q2, q3, r0, r1, r2, r3⟩, ⟨e0, e1, e2, e3, e0f, e1f, e2f, e3f⟩⟩ := HS.out w6 hBw; have ze6 := cell_lt e0; have zB6 := cell_lt hci; have HU6 := Lib.hid hu6; obtain ⟨nm1, am1, lm1, cm1, nm2, am2, lm2, cm2, rfl, -, -⟩ := hu6
                  try go_wp2_with fail
                  refine hK.out _ _ ?_ (fun hHeld => ?_)
                  · exact HCS.out _ (by repeat (first|exact bzR _ _|exact hBw|refine bzD ?_|refine bzN ?_|refine bzS ?_|refine bzA ?_))
                  clear hK K
                  try simp only [Act.put, List.setIfInBounds_toArray, List.set_cons_zero, List.set_cons_succ]
                  refine wpAnyH_ready (rs := [22]) (by kernel_rfl) (by simp) ?_
                  refine AllReadyH.cons rfl (fun K hK => ?_) AllReadyH.nil
                  try go_simp
                  refine hK.out _ _ ?_ (fun hHeld => ?_)
                  · exact HCS.out _ (by repeat (first|exact bzR _ _|exact hBw|refine bzD ?_|refine bzN ?_|refine bzS ?_|refine bzA ?_))
                  clear hK K
                  try simp only [Act.put, List.setIfInBounds_toArray, List.set_cons_zero, List.set_cons_succ]
                  refine wpAnyH_ready (rs := [23]) (by kernel_rfl) (by simp) ?_
                  refine AllReadyH.cons rfl (fun K hK => ?_) AllReadyH.nil
                  try go_simp
                  refine hK.out _ _ ?_ (fun hHeld => ?_)
                  · exact ⟨far4o hci hneB _ _ _ _, far4o hcr hneB _ _ _ _, far4o q0 hnef _ _ _ _, far4o q1 hnef _ _ _ _, far4o q2 hnef _ _ _ _, far4o q3 hnef _ _ _ _, far4o r0 hner _ _ _ _, far4o r1 hner _ _ _ _, far4o r2 hner _ _ _ _, far4o r3 hner _ _ _ _⟩
                  clear hK K
                  try simp only [Act.put, List.setIfInBounds_toArray, List.set_cons_zero, List.set_cons_succ]
                  refine wpAnyH_done (by kernel_rfl) ?_ _
                  have HRn := Lib.hid (((hRq.out.keep hBw).put hlt hl2 HU6.out).congr (fun r c'' _ _ => congrFun (congrFun (gC_put g row col hir) r) c''))
                  have HOn := Lib.hid (((((hOq.below hBw).set (p := ⟨bs i, c' * 4, none⟩) (fun _ => ⟨i, hlt, rfl⟩) (.bool nm1)).set (p := ⟨bs i, c' * 4 + 1, none⟩) (fun _ => ⟨i, hlt, rfl⟩) (.slice am1 lm1 cm1)).set (p := ⟨bs i, c' * 4 + 2, none⟩) (fun _ => ⟨i, hlt, rfl⟩) (.bool nm2)).set (p := ⟨bs i, c' * 4 + 3, none⟩) (fun _ => ⟨i, hlt, rfl⟩) (.slice am2 lm2 cm2))
                  clear MC SC HS HU HU6
                  go_wp2
                  exact ⟨⟨c' + 1, hl2, by go_num, HOn.out, HRn⟩, meas hl2 (by go_num) rfl⟩
                · go_simp
                  go_at_call 153; (with_reducible refine (MC.out _ ?_).mono ?_); (repeat (first|exact bzR _ _|exact hBw|refine bzD ?_|refine bzN ?_|refine bzS ?_|refine bzA ?_)); rintro e w5 ⟨⟨u5, rfl, hu5⟩, hb5⟩; (have hBd : Below wq.heap.size wq w5 := bthen (by repeat (first|exact bzR _ _|exact hBw|refine bzD ?_|refine bzN ?_|refine bzS ?_|refine bzA ?_)) hb5; clear hBw; have hBw := hBd; clear hBd); obtain ⟨⟨hci, hcr, q0, q1, q2, q3, r0, r1, r2, r3⟩, ⟨e0, e1, e2, e3, e0f, e1f, e2f, e3f⟩⟩ := HS.out w5 hBw; have ze5 := cell_lt e0; have zB5 := cell_lt hci; have HU := Lib.hid hu5; have hy5 := Below.refl w5.heap.size w5; obtain ⟨nn1, aa1, ll1, cc1, nn2, aa2, ll2, cc2, rfl, -, -⟩ := hu5
                  try go_wp2_with fail
                  refine hK.out _ _ ?_ (fun hHeld => ?_)
                  · exact HCS.out _ (by repeat (first|exact bzR _ _|exact hBw|refine bzD ?_|refine bzN ?_|refine bzS ?_|refine bzA ?_))
                  clear hK K
                  try simp only [Act.put, List.setIfInBounds_toArray, List.set_cons_zero, List.set_cons_succ]
                  refine wpAnyH_ready (rs := [11]) (by kernel_rfl) (by simp) ?_
                  refine AllReadyH.cons rfl (fun K hK => ?_) AllReadyH.nil
                  try go_simp
                  refine hK.out _ _ ?_ (fun hHeld => ?_)
                  · exact HCS.out _ (by repeat (first|exact bzR _ _|exact hBw|refine bzD ?_|refine bzN ?_|refine bzS ?_|refine bzA ?_))
                  clear hK K
                  try simp only [Act.put, List.setIfInBounds_toArray, List.set_cons_zero, List.set_cons_succ]
                  refine wpAnyH_ready (rs := [21]) (by kernel_rfl) (by simp) ?_
                  refine AllReadyH.cons rfl (fun K hK => ?_) AllReadyH.nil
                  try go_simp
                  go_at_call 222; (with_reducible refine (SC.out _ _ ?_ (HU.out.keep ?_)).mono ?_); (repeat (first|exact bzR _ _|exact hBw|refine bzD ?_|refine bzN ?_|refine bzS ?_|refine bzA ?_)); (repeat (first|exact bzR _ _|exact hy5|refine bzD ?_|refine bzN ?_|refine bzS ?_|refine bzA ?_)); rintro e w6 ⟨⟨u6, rfl, hu6⟩, hb6⟩; (have hBd : Below wq.heap.size wq w6 := bthen (by repeat (first|exact bzR _ _|exact hBw|refine bzD ?_|refine bzN ?_|refine bzS ?_|refine bzA ?_)) hb6; clear hBw; have hBw := hBd; clear hBd); obtain ⟨⟨hci, hcr, q0, q1, q2, q3, r0, r1, r2, r3⟩, ⟨e0, e1, e2, e3, e0f, e1f, e2f, e3f⟩⟩ := HS.out w6 hBw; have ze6 := cell_lt e0; have zB6 := cell_lt hci; have HU6 := Lib.hid hu6; obtain ⟨nm1, am1, lm1, cm1, nm2, am2, lm2, cm2, rfl, -, -⟩ := hu6
                  try go_wp2_with fail
                  refine hK.out _ _ ?_ (fun hHeld => ?_)
                  · exact HCS.out _ (by repeat (first|exact bzR _ _|exact hBw|refine bzD ?_|refine bzN ?_|refine bzS ?_|refine bzA ?_))
                  clear hK K
                  try simp only [Act.put, List.setIfInBounds_toArray, List.set_cons_zero, List.set_cons_succ]
                  refine wpAnyH_ready (rs := [22]) (by kernel_rfl) (by simp) ?_
                  refine AllReadyH.cons rfl (fun K hK => ?_) AllReadyH.nil
                  try go_simp
                  refine hK.out _ _ ?_ (fun hHeld => ?_)
                  · exact HCS.out _ (by repeat (first|exact bzR _ _|exact hBw|refine bzD ?_|refine bzN ?_|refine bzS ?_|refine bzA ?_))
                  clear hK K
                  try simp only [Act.put, List.setIfInBounds_toArray, List.set_cons_zero, List.set_cons_succ]
                  refine wpAnyH_ready (rs := [23]) (by kernel_rfl) (by simp) ?_
                  refine AllReadyH.cons rfl (fun K hK => ?_) AllReadyH.nil
                  try go_simp
                  refine hK.out _ _ ?_ (fun hHeld => ?_)
                  · exact ⟨far4o hci hneB _ _ _ _, far4o hcr hneB _ _ _ _, far4o q0 hnef _ _ _ _, far4o q1 hnef _ _ _ _, far4o q2 hnef _ _ _ _, far4o q3 hnef _ _ _ _, far4o r0 hner _ _ _ _, far4o r1 hner _ _ _ _, far4o r2 hner _ _ _ _, far4o r3 hner _ _ _ _⟩
                  clear hK K
                  try simp only [Act.put, List.setIfInBounds_toArray, List.set_cons_zero, List.set_cons_succ]
                  refine wpAnyH_done (by kernel_rfl) ?_ _
                  have HRn := Lib.hid (((hRq.out.keep hBw).put hlt hl2 HU6.out).congr (fun r c'' _ _ => congrFun (congrFun (gC_put g row col hir) r) c''))
                  have HOn := Lib.hid (((((hOq.below hBw).set (p := ⟨bs i, c' * 4, none⟩) (fun _ => ⟨i, hlt, rfl⟩) (.bool nm1)).set (p := ⟨bs i, c' * 4 + 1, none⟩) (fun _ => ⟨i, hlt, rfl⟩) (.slice am1 lm1 cm1)).set (p := ⟨bs i, c' * 4 + 2, none⟩) (fun _ => ⟨i, hlt, rfl⟩) (.bool nm2)).set (p := ⟨bs i, c' * 4 + 3, none⟩) (fun _ => ⟨i, hlt, rfl⟩) (.slice am2 lm2 cm2))
                  clear MC SC HS HU HU6
                  go_wp2
                  exact ⟨⟨c' + 1, hl2, by go_num, HOn.out, HRn⟩, meas hl2 (by go_num) rfl⟩
              · obtain rfl : c' = c := by omega
                have hl2I : ¬ (c' : Int) < (c' : Int) := by omega
                have HRw := Lib.hid (hRq.out.congr fun r c'' _ hc'' => gC_row g row col hc'')
                have hOw := HO3.out.trans hOq
                clear hRq hOq hmi
                go_wp2
                exact ⟨⟨i + 1, hlt, by go_num, hOw, HRw⟩, meas hlt (by go_num) rfl⟩
        · obtain rfl : i = n := by omega
          have hiI : ¬ (i : Int) < (i : Int) := by omega
          have HF := Lib.hid (hRr.out.congr fun r c' hr' hc' => gC_end g row col (c := c') hr')
          have HOF := Lib.hid (HO1.out.trans hO)
          clear hRr hO
          go_wp2
          refine bodyPost_end (v := .tuple #[]) (by simp [results, Tryz.results154, go_sem]) rfl ?_
          exact ⟨rfl, HF.out, HOF.out⟩
end Go.Proofs.YtbmaffijncapiaaGreatDoor

