/- matrix's laws: solved. -/
import Derived.Test.YthaohpfbengabaaGreatDoorV27
import Derived.Test.YthaohpfbengabaaGreatDoorV24
import Derived.Deep.DeepCutAuto
import Derived.BigQuiet
set_option linter.unusedVariables false
set_option linter.unusedSimpArgs false
namespace Go.Proofs.YthaohpfbengabaaGreatDoor
open Num
open Go.ChangeShapes Go.WideShapes Go.ChangeAt Go.RowKit
set_option linter.unusedVariables false
set_option linter.unusedSimpArgs false
attribute [local go_sem ↓] Go.wp_at_zero Go.wp_at_succ
theorem solL_bd {g : Grid} {l : List Int} {v : Value} {w : World} (h : Mt 64 g v w) (hs : g.length = cols g) (hd : Det.detE g.length (gat g) ≠ 0) (hl : l.length = g.length) (bl : ∀ j, Bd 64 (l.getD j 0)) {j : Nat} (hj : j < g.length) :
    Bd (kb 64 16 + 80) ((solL g l).getD j (0, 1)).1 ∧ Bd (kb 64 16) ((solL g l).getD j (0, 1)).2 := by
  have s := h.sz
  have hk := invD_pos hd
  have hri : Rct (invG g) (cols (invG g)) := by rw [inv_cols s.1]; exact tab_rect _ _ _
  have bx : Bd (kb 64 16 + 80) ((applyG (invG g) l).getD j 0) := (app_bd2 hri (by rw [inv_cols s.1]; exact hl) (inv_bd (by decide) h.bd hd) bl j).mono (by rw [inv_cols s.1]; have := kb_mono 64 s.2.2.1; omega)
  have bk := (invD_bd (K := 64) (by decide) h.bd hd).mono (kb_mono 64 s.2.2.1)
  rw [solL_at hj]
  have h2 := gcd_dvdR ((applyG (invG g) l).getD j 0) (invD g)
  have h0 : gcdI ((applyG (invG g) l).getD j 0) (invD g) ≠ 0 := fun e => by rw [e] at h2; have := Int.zero_dvd.1 h2; omega
  exact ⟨bd_quot bx (gcd_dvdL _ _) h0, bd_quot bk h2 h0⟩
theorem numF_bd {r : List Int} {S : List (Int × Int)} {Q n : Nat} (hr : ∀ j, Bd 64 (r.getD j 0)) (hS : ∀ j, j < n → Bd (Q + 80) (S.getD j (0, 1)).1 ∧ Bd Q (S.getD j (0, 1)).2) : ∀ j, j ≤ n → Bd ((Q + 160) * j + 1) (numF r S j).1 ∧ Bd ((Q + 160) * j + 1) (numF r S j).2
  | 0, _ => ⟨bd_zero, by show Bd ((Q + 160) * 0 + 1) 1; unfold Bd; simp⟩
  | j + 1, hj => by
    obtain ⟨h1, h2⟩ := numF_bd hr hS j (by omega)
    obtain ⟨h3, h4⟩ := hS j (by omega)
    have e : (Q + 160) * (j + 1) + 1 = ((Q + 160) * j + 1) + Q + 160 := by rw [Nat.mul_succ]; omega
    rw [e]
    refine ⟨?_, (h2.mul h4).mono (by omega)⟩
    have a1 := (h1.mul h4).mono (show _ ≤ ((Q + 160) * j + 1) + Q + 159 by omega)
    have a2 := (((hr j).mul h3).mul h2).mono (show _ ≤ ((Q + 160) * j + 1) + Q + 159 by omega)
    exact (a1.add a2).mono (by omega)
theorem bd_pred {k : Nat} {x : Int} (h : Bd k x) : Bd (k + 1) (x - 1) := by
  unfold Bd at *
  have h1 : (x - 1).natAbs ≤ x.natAbs + 1 := by omega
  have h2 : 2 ^ (k + 1) = 2 ^ k + 2 ^ k := by rw [Nat.pow_succ]; omega
  have h3 : 1 ≤ 2 ^ k := Nat.pow_pos (by omega)
  omega
theorem bd_one' {k : Nat} (h : 1 ≤ k) : Bd k 1 := by
  unfold Bd
  have : 2 ^ 1 ≤ 2 ^ k := Nat.pow_le_pow_right (by omega) h
  simp at this ⊢
  omega
theorem VarI.put_far {ub p : Nat} {m z : Int} {W : World} (h : VarI ub m W) (k : VarI p z W) (hne : ub ≠ p) (u v : Value) : VarI ub m ((W.setCell ⟨p, 0, none⟩ u).setCell ⟨p, 1, none⟩ v) := by
  obtain ⟨ht, n, a, ln, c, h0, h1, f0, f1, hi⟩ := h
  obtain ⟨_, n', a', ln', c', r0, r1, _, _, _⟩ := k
  exact ⟨by rw [typ_set, typ_set]; exact ht, n, a, ln, c, put2_keep h0 hne, put2_keep h1 hne, put2_f f0, put2_f f1, hi.put2 r0 r1 _ _⟩
set_option maxRecDepth 100000 in
set_option maxHeartbeats 16000000 in
theorem solved_c {n : Nat} {g : Grid} {b : List Int} {v u : Value} {w : World} (h : Mt 64 g v w) (hs : g.length = cols g) (hd : Det.detE g.length (gat g) ≠ 0) (hu : RowI w u b) (hl : b.length = g.length) (hn : g.length = n) :
    Calls Tryz.prog 65 #[v, u] w fun e w' => e = .returned (.bool true) ∧ Below w.heap.size w w' := by
  have s := h.sz
  have bl := i64_bd2 hu
  have LV := Lib.hid (fun W (q : Below w.heap.size w W) => list_c u b W (hu.keep q) (by omega))
  have SV := Lib.hid (fun z W (q : Below w.heap.size w W) (hz : PRow 0 W z b) => solve_c (n := n) (h.keep q) hs hd hz hl bl hn)
  have RW := Lib.hid (fun (i : Nat) W (q : Below w.heap.size w W) (hi : i < g.length) => rowM_c v g i W (h.m.keep q) hi (by omega) (by rw [h.rc i hi]; omega))
  have HM := Lib.hid h
  have HU := Lib.hid hu
  have HSD := Lib.hid (And.intro hs (And.intro hd (And.intro hl hn)))
  have hn16 : n ≤ 16 := by omega
  obtain ⟨ma, mc, rfl⟩ := h.m.lit
  obtain ⟨ba, bc, rfl, -⟩ := hu
  rw [hl] at LV ⊢
  rw [hn] at LV SV RW ⊢
  clear h hs hd hl hn s bl
  have hB := Below.refl w.heap.size w
  go_enter Tryz.func65, Tryz.ntmps65
  go_wp2
  refine wp_name fun w1 hW1 => ?_
  have m0 : w1.cell? ⟨w.heap.size, 0, none⟩ = some (.slice ma n mc) := by rw [hW1]; exact (by first | assumption | exact cell_new (by with_reducible first | rfl | (simp; done) | (simp; omega)) rfl | (repeat (first | assumption | exact cell_new (by with_reducible first | rfl | (simp; done) | (simp; omega)) rfl | refine cell_alloc ?_ _ | refine cell_drew ?_ | refine cell_drewN ?_ _ | refine cell_far ?_ (by simp) _ | (refine cell_far ?_ (by simp <;> omega) _))) | simp [go_sem, *])
  have zm0 := cell_lt m0
  have hB : Below w.heap.size w w1 := by rw [hW1]; repeat (first | exact Below.refl _ _ | exact hB | refine Below.drew ?_ | refine below_drewN ?_ _ | refine bset ?_ (by simp <;> omega) _ | refine bal ?_ _)
  have hz : w.heap.size ≤ w1.heap.size := hB.size
  clear hW1
  have HS := Lib.hid (show ∀ V, Below w1.heap.size w1 V → V.cell? ⟨w.heap.size, 0, none⟩ = some (.slice ma n mc) from fun V q => bkeep q m0)
  go_cut [5, 6] (fun s5 s6 wx => (∃ sa sc, s5 = .slice sa n sc ∧ s6 = .int .i64 0 ∧ Hid (IsQ wx (.slice sa n sc) (solL g b))) ∧ Below w1.heap.size w1 wx)
  case first =>
    have hBw := Below.refl w1.heap.size w1
    go_region_held3 (fun V => V.cell? ⟨w.heap.size, 0, none⟩ = some (.slice ma n mc))
      (first | (refine HS.out _ ?_; (repeat (first | exact Below.refl _ _ | exact hBw | refine Below.drew ?_ | refine below_drewN ?_ _ | refine bset ?_ (by simp <;> omega) _ | refine bal ?_ _)); done) | fail)
      (first
      | (go_at_call 43; (with_reducible refine (LV.out _ (bthen hB ?_)).mono ?_); (repeat (first | exact Below.refl _ _ | exact hBw | refine Below.drew ?_ | refine below_drewN ?_ _ | refine bset ?_ (by simp <;> omega) _ | refine bal ?_ _)); rintro e w2 ⟨⟨lv, rfl, hlv⟩, hb2⟩; (have hBd : Below w1.heap.size w1 w2 := bthen (by repeat (first | exact Below.refl _ _ | exact hBw | refine Below.drew ?_ | refine below_drewN ?_ _ | refine bset ?_ (by simp <;> omega) _ | refine bal ?_ _)) hb2; clear hBw; have hBw := hBd; clear hBd); have HL := Lib.hid (show PRow 0 w2 lv b from hlv.row.rebase (Nat.zero_le _)); obtain ⟨la', lc', rfl⟩ := hlv.ex; rw [HSD.out.2.2.1, HSD.out.2.2.2] at HL ⊢; have hy2 := Below.refl w2.heap.size w2; clear hlv)
      | (go_at_call 50; (with_reducible refine (SV.out _ _ (bthen hB ?_) (prow_keep HL.out ?_)).mono ?_); (repeat (first | exact Below.refl _ _ | exact hBw | refine Below.drew ?_ | refine below_drewN ?_ _ | refine bset ?_ (by simp <;> omega) _ | refine bal ?_ _)); (repeat (first | exact Below.refl _ _ | exact hy2 | refine Below.drew ?_ | refine below_drewN ?_ _ | refine bset ?_ (by simp <;> omega) _ | refine bal ?_ _)); rintro e w3 ⟨⟨sa, sc, rfl, hq⟩, hb3⟩; (have hBd : Below w1.heap.size w1 w3 := bthen (by repeat (first | exact Below.refl _ _ | exact hBw | refine Below.drew ?_ | refine below_drewN ?_ _ | refine bset ?_ (by simp <;> omega) _ | refine bal ?_ _)) hb3; clear hBw; have hBw := hBd; clear hBd); have HQ := Lib.hid hq; clear hq)
      | fail)
    all_goals
      go_wp2
      go_meet
      exact ⟨⟨sa, sc, rfl, rfl, HQ⟩, by repeat (first | exact Below.refl _ _ | exact hBw | refine Below.drew ?_ | refine below_drewN ?_ _ | refine bset ?_ (by simp <;> omega) _ | refine bal ?_ _)⟩
  case rest =>
    obtain ⟨⟨sa, sc, rfl, rfl, HQ⟩, hk⟩ := hcut
    rename World => w4
    have m0 := bkeep hk m0
    have hB := bthen hB hk
    have hz := hB.size
    have hnn : ((n : Int) != (n : Int)) = false := by simp
    have hBw := Below.refl w4.heap.size w4
    clear hk HS LV SV
    go_wp2
    go_loopw [32] (fun x wr => ∃ i : Nat, i ≤ n ∧ x = .int .i64 i ∧ Below w4.heap.size w4 wr) (fun x _ => n - (intOf x).toNat)
    case atStart => exact ⟨0, Nat.zero_le _, rfl, by repeat (first | exact Below.refl _ _ | exact hBw | refine Below.drew ?_ | refine below_drewN ?_ _ | refine bset ?_ (by simp <;> omega) _ | refine bal ?_ _)⟩
    case round =>
      obtain ⟨i, hi, rfl, hBr⟩ := hrel
      by_cases hlt : i < n
      rotate_left
      · obtain rfl : i = n := by omega
        have hltI : ¬ (i : Int) < (i : Int) := by omega
        have hBf := bthen hB hBr
        go_wp2
        go_ret
        exact ⟨rfl, by repeat (first | exact Below.refl _ _ | exact hBf | refine Below.drew ?_ | refine below_drewN ?_ _ | refine bset ?_ (by simp <;> omega) _ | refine bal ?_ _)⟩
      have hltI : (i : Int) < (n : Int) := by omega
      have HLT := Lib.hid hlt
      have hBwr := bthen hB hBr
      have m1 := bkeep hBr m0
      have zm1 := cell_lt m1
      have RC := Lib.hid (fun W (q : Below wr.heap.size wr W) => RW.out i W (bthen hBwr q) hlt)
      have hBx := Below.refl wr.heap.size wr
      clear hlt
      go_wp2_with fail
      (with_reducible refine (RC.out _ ?_).mono ?_); (repeat (first | exact Below.refl _ _ | exact hBx | refine Below.drew ?_ | refine below_drewN ?_ _ | refine bset ?_ (by simp <;> omega) _ | refine bal ?_ _))
      rintro e w5 ⟨⟨rv, rfl, hrv⟩, hb5⟩
      have hk : Below wr.heap.size wr w5 := bthen (by repeat (first | exact Below.refl _ _ | exact hBx | refine Below.drew ?_ | refine below_drewN ?_ _ | refine bset ?_ (by simp <;> omega) _ | refine bal ?_ _)) hb5
      have HR := Lib.hid (show PRow 0 w5 rv (g.getD i []) from hrv.row.rebase (Nat.zero_le _))
      obtain ⟨ra, rc, rfl⟩ := hrv.ex
      have hrl : (g.getD i []).length = n := by rw [HM.out.rc i (by rw [HSD.out.2.2.2]; exact HLT.out), ← HSD.out.1]; exact HSD.out.2.2.2
      rw [hrl] at HR ⊢
      have HRL := Lib.hid hrl
      clear hrl hrv hb5 RC m1 zm1
      have hBx := Below.refl w5.heap.size w5
      go_wp2_with fail
      (with_reducible refine (of_c 0 _ (by decide) (by decide)).mono ?_)
      rintro e w6 ⟨⟨zv, rfl, hz⟩, hb6⟩
      have hk6 : Below w5.heap.size w5 w6 := bthen (by repeat (first | exact Below.refl _ _ | exact hBx | refine Below.drew ?_ | refine below_drewN ?_ _ | refine bset ?_ (by simp <;> omega) _ | refine bal ?_ _)) hb6
      have HZ := Lib.hid hz
      obtain ⟨zn, za, zl, zc, rfl⟩ := hz.lit
      have hBx := Below.refl w6.heap.size w6
      clear hz hb6
      go_wp2_with fail
      (with_reducible refine (of_c 1 _ (by decide) (by decide)).mono ?_)
      rintro e w7 ⟨⟨ov, rfl, ho⟩, hb7⟩
      have hk7 : Below w6.heap.size w6 w7 := bthen (by repeat (first | exact Below.refl _ _ | exact hBx | refine Below.drew ?_ | refine below_drewN ?_ _ | refine bset ?_ (by simp <;> omega) _ | refine bal ?_ _)) hb7
      have HO := Lib.hid ho
      have HZ7 := Lib.hid (HZ.out.keep hk7)
      obtain ⟨on, oa, ol, oc, rfl⟩ := ho.lit
      clear ho hb7 HZ
      have hBx := Below.refl w7.heap.size w7
      go_wp2
      refine wp_name fun w8 hW8 => ?_
      have hb78 : Below w7.heap.size w7 w8 := by rw [hW8]; repeat (first | exact Below.refl _ _ | exact hBx | refine Below.drew ?_ | refine below_drewN ?_ _ | refine bset ?_ (by simp <;> omega) _ | refine bal ?_ _)
      have VN := Lib.hid (show VarI w7.heap.size 0 w8 from by
        rw [hW8]
        refine ⟨?_, zn, za, zl, zc, by simp [go_sem], by simp [go_sem], by simp [go_sem], by simp [go_sem], ?_⟩
        · (simp (disch := (first | (simp; done) | (simp; omega) | omega)) only [typ_set, typ_alloc_eq, typ_alloc_lt, typ_drew]; done)
        · ((repeat' (first | exact HZ7.out | refine IsInt.al ?_ _ | refine IsInt.dr ?_ | refine IsInt.setT ?_ ?_ _)) <;> (simp (disch := (first | (simp; done) | (simp; omega) | omega)) only [typ_set, typ_alloc_eq, typ_alloc_lt, typ_drew]; done)))
      have VD := Lib.hid (show VarI (w7.heap.size + 1) 1 w8 from by
        rw [hW8]
        refine ⟨?_, on, oa, ol, oc, by simp [go_sem], by simp [go_sem], by simp [go_sem], by simp [go_sem], ?_⟩
        · (simp (disch := (first | (simp; done) | (simp; omega) | omega)) only [typ_set, typ_alloc_eq, typ_alloc_lt, typ_drew]; done)
        · ((repeat' (first | exact HO.out | refine IsInt.al ?_ _ | refine IsInt.dr ?_ | refine IsInt.setT ?_ ?_ _)) <;> (simp (disch := (first | (simp; done) | (simp; omega) | omega)) only [typ_set, typ_alloc_eq, typ_alloc_lt, typ_drew]; done)))
      clear hW8 HZ7 HO
      have hk47 : Below w4.heap.size w4 w7 := bthen hBr (bthen hk (bthen hk6 hk7))
      have HB7 := Lib.hid (bthen hB hk47)
      have HB47 := Lib.hid hk47
      have HQ7 := Lib.hid (HQ.out.keep hk47)
      have HR7 := Lib.hid (prow_keep HR.out (bthen hk6 hk7))
      have HU7 := Lib.hid (HU.out.keep HB7.out)
      have hig : i < g.length := by rw [HSD.out.2.2.2]; exact HLT.out
      have HEQ := Lib.hid (solved_eq (l := b) HM.out.rc HSD.out.1 HSD.out.2.1 HSD.out.2.2.1 hig)
      have HQL := Lib.hid (show (solL g b).length = n by rw [solL_len, HSD.out.2.2.2])
      have HSB := Lib.hid (fun j (hj : j < n) => solL_bd HM.out HSD.out.1 HSD.out.2.1 HSD.out.2.2.1 (i64_bd2 HU.out) (show j < g.length by rw [HSD.out.2.2.2]; exact hj))
      have HRB := Lib.hid (show ∀ j, Bd 64 ((g.getD i []).getD j 0) from fun j => HM.out.bd i j)
      have HNB := Lib.hid (numF_bd (n := n) HRB.out HSB.out)
      rw [HSD.out.2.2.2] at HEQ
      obtain ⟨r, hr⟩ : ∃ r, g.getD i [] = r := ⟨_, rfl⟩
      obtain ⟨S, hS⟩ : ∃ S, solL g b = S := ⟨_, rfl⟩
      obtain ⟨Q, hQ⟩ : ∃ Q, kb 64 16 = Q := ⟨_, rfl⟩
      have HQB := Lib.hid (show Q ≤ 5000000 by rw [← hQ]; decide)
      rw [hr] at HR7 HEQ HRB HRL HNB
      rw [hS] at HQ7 HEQ HQL HSB HNB
      rw [hQ] at HSB HNB
      clear hr hS hQ hig hk47 hk hk6 hk7 HR hBx
      go_loopw [47] (fun x wr => ∃ j : Nat, j ≤ n ∧ x = .int .i64 j ∧ Below w7.heap.size w7 wr ∧ Hid (VarI w7.heap.size (numF r S j).1 wr) ∧ Hid (VarI (w7.heap.size + 1) (numF r S j).2 wr)) (fun x _ => n - (intOf x).toNat)
      case atStart => exact ⟨0, Nat.zero_le _, rfl, hb78, VN, VD⟩
      case round =>
        obtain ⟨j, hj, rfl, hBq, VN2, VD2⟩ := hrel
        rename World => wq
        by_cases hjt : j < n
        rotate_left
        · obtain rfl : j = n := by omega
          have hltJ : ¬ (j : Int) < (j : Int) := by omega
          obtain ⟨-, vn, va, vl, vc, v0, v1, -, -, vI⟩ := VN2.out
          obtain ⟨-, dn, da, dl, dc, d0, d1, -, -, dI⟩ := VD2.out
          rw [HEQ.out] at vI
          have hbD := (HNB.out j (Nat.le_refl _)).2
          obtain ⟨D, hD⟩ : ∃ D, (numF r S j).2 = D := ⟨_, rfl⟩
          rw [hD] at vI dI hbD
          obtain ⟨_, _, he, hbr⟩ := HU7.out
          obtain ⟨rfl, -, rfl⟩ := Value.slice.inj he
          obtain ⟨bb, bo, rfl, b0, bi64⟩ := hbr i (by rw [HSD.out.2.2.1, HSD.out.2.2.2]; exact HLT.out)
          obtain ⟨bi, hbi⟩ : ∃ z, b.getD i 0 = z := ⟨_, rfl⟩
          rw [hbi] at vI b0 bi64
          have q0 := bkeep hBq b0
          have OC := Lib.hid (fun W => of_c bi W bi64.1 bi64.2)
          have hb64 : Bd 64 bi := by unfold I64 at bi64; unfold Bd; omega
          have hjq : (Q + 160) * j + 1 ≤ 17179869184 := by
            have h1 := HQB.out
            have := Nat.mul_le_mul (show Q + 160 ≤ 5000160 by omega) hn16
            omega
          have MC := Lib.hid (fun z W (q : Below wq.heap.size wq W) (hz : IsInt W z bi) => mul_c _ z D bi _ 64 W (dI.keep q) hz hbD hb64 hjq (by decide))
          have VI := Lib.hid vI
          have HS := Lib.hid (show ∀ V, Below wq.heap.size wq V → V.cell? ⟨w7.heap.size, 0, none⟩ = some (.bool vn) ∧ V.cell? ⟨w7.heap.size, 1, none⟩ = some (.slice va vl vc) ∧ V.cell? ⟨w7.heap.size + 1, 0, none⟩ = some (.bool dn) ∧ V.cell? ⟨w7.heap.size + 1, 1, none⟩ = some (.slice da dl dc) ∧ V.cell? ⟨bb, bo + i, none⟩ = some (.int .i64 bi) from fun V q => ⟨bkeep q v0, bkeep q v1, bkeep q d0, bkeep q d1, bkeep q q0⟩)
          have zq := cell_lt q0
          have zv := cell_lt v0
          have zd := cell_lt d0
          have hBw := Below.refl wq.heap.size wq
          clear vI dI hbD hD he hbr b0 bi64 hbi hb64 hjq VN2 VD2 VN VD
          go_wp2
          go_region_held3 (fun V => V.cell? ⟨w7.heap.size, 0, none⟩ = some (.bool vn) ∧ V.cell? ⟨w7.heap.size, 1, none⟩ = some (.slice va vl vc) ∧ V.cell? ⟨w7.heap.size + 1, 0, none⟩ = some (.bool dn) ∧ V.cell? ⟨w7.heap.size + 1, 1, none⟩ = some (.slice da dl dc) ∧ V.cell? ⟨bb, bo + i, none⟩ = some (.int .i64 bi))
            (first | (refine HS.out _ ?_; (repeat (first | exact Below.refl _ _ | exact hBw | refine Below.drew ?_ | refine below_drewN ?_ _ | refine bset ?_ (by simp <;> omega) _ | refine bal ?_ _)); done) | fail)
            (first
            | (go_at_call 25; (with_reducible refine (OC.out _).mono ?_); rintro e w10 ⟨⟨ov, rfl, hov⟩, hb10⟩; (have hBd : Below wq.heap.size wq w10 := bthen (by repeat (first | exact Below.refl _ _ | exact hBw | refine Below.drew ?_ | refine below_drewN ?_ _ | refine bset ?_ (by simp <;> omega) _ | refine bal ?_ _)) hb10; clear hBw; have hBw := hBd; clear hBd); have HO := Lib.hid hov; have hy10 := Below.refl w10.heap.size w10; obtain ⟨on, oa, ol, oc, rfl⟩ := hov.lit; clear hov)
            | (go_at_call 95; (with_reducible refine (MC.out _ _ ?_ (HO.out.keep ?_)).mono ?_); (repeat (first | exact Below.refl _ _ | exact hBw | refine Below.drew ?_ | refine below_drewN ?_ _ | refine bset ?_ (by simp <;> omega) _ | refine bal ?_ _)); (repeat (first | exact Below.refl _ _ | exact hy10 | refine Below.drew ?_ | refine below_drewN ?_ _ | refine bset ?_ (by simp <;> omega) _ | refine bal ?_ _)); rintro e w11 ⟨⟨pv, rfl, hpv⟩, hb11⟩; (have hBd : Below wq.heap.size wq w11 := bthen (by repeat (first | exact Below.refl _ _ | exact hBw | refine Below.drew ?_ | refine below_drewN ?_ _ | refine bset ?_ (by simp <;> omega) _ | refine bal ?_ _)) hb11; clear hBw; have hBw := hBd; clear hBd); have HP := Lib.hid hpv; have HV11 := Lib.hid (VI.out.keep hBw); have hy11 := Below.refl w11.heap.size w11; obtain ⟨pn, pa, pl, pc, rfl⟩ := hpv.lit; clear hpv)
            | (go_at_call 64; (with_reducible refine (cmp_same (HV11.out.keep ?_) (HP.out.keep ?_)).mono ?_); (repeat (first | exact Below.refl _ _ | exact hy11 | refine Below.drew ?_ | refine below_drewN ?_ _ | refine bset ?_ (by simp <;> omega) _ | refine bal ?_ _)); (repeat (first | exact Below.refl _ _ | exact hy11 | refine Below.drew ?_ | refine below_drewN ?_ _ | refine bset ?_ (by simp <;> omega) _ | refine bal ?_ _)); rintro e w12 ⟨rfl, hb12⟩; (have hBd : Below wq.heap.size wq w12 := bthen (by repeat (first | exact Below.refl _ _ | exact hBw | refine Below.drew ?_ | refine below_drewN ?_ _ | refine bset ?_ (by simp <;> omega) _ | refine bal ?_ _)) hb12; clear hBw; have hBw := hBd; clear hBd))
            | fail)
          all_goals
            have hBf : Below w4.heap.size w4 w12 := bthen HB47.out (bthen hBq hBw)
            have hltK := HLT.out
            clear OC MC HS
            go_wp2
            exact ⟨⟨i + 1, hltK, by go_num, by repeat (first | exact Below.refl _ _ | exact hBf | refine Below.drew ?_ | refine below_drewN ?_ _ | refine bset ?_ (by simp <;> omega) _ | refine bal ?_ _)⟩, meas hltK (by go_num) rfl⟩
        · have hltJ : (j : Int) < (n : Int) := by omega
          obtain ⟨_, _, he, hq⟩ := HQ7.out
          obtain ⟨rfl, -, rfl⟩ := Value.slice.inj he
          rcases hq with hq | ⟨sb, so, rfl, hq⟩
          · have := HQL.out
            rw [hq] at this
            simp at this
            omega
          obtain ⟨n1, a1, l1, k1, n2, a2, l2, k2, s0, s1, s2, s3, hi1, hi2⟩ := hq j (by rw [HQL.out]; exact hjt)
          replace s0 : w7.cell? ⟨sb, so + j * 4, none⟩ = some (.bool n1) := s0
          replace s1 : w7.cell? ⟨sb, so + j * 4 + 1, none⟩ = some (.slice a1 l1 k1) := by rw [Nat.add_assoc]; exact s1
          replace s2 : w7.cell? ⟨sb, so + j * 4 + 2, none⟩ = some (.bool n2) := by rw [Nat.add_assoc]; exact s2
          replace s3 : w7.cell? ⟨sb, so + j * 4 + 3, none⟩ = some (.slice a2 l2 k2) := by rw [Nat.add_assoc]; exact s3
          have hSj : S[j]'(by rw [HQL.out]; exact hjt) = S.getD j (0, 1) := by rw [List.getD_eq_getElem?_getD, List.getElem?_eq_getElem (by rw [HQL.out]; exact hjt)]; rfl
          rw [hSj] at hi1 hi2
          obtain ⟨bp, bq⟩ := HSB.out j hjt
          obtain ⟨bN, bD⟩ := HNB.out j (by omega)
          have hstep : (numF r S (j + 1)).1 = (numF r S j).1 * (S.getD j (0, 1)).2 + r.getD j 0 * (S.getD j (0, 1)).1 * (numF r S j).2 ∧ (numF r S (j + 1)).2 = (numF r S j).2 * (S.getD j (0, 1)).2 := ⟨rfl, rfl⟩
          obtain ⟨_, _, he, -, vr⟩ := HR7.out.view
          obtain ⟨rfl, -, rfl⟩ := Value.slice.inj he
          obtain ⟨rb, ro, xn, xa, xl, xk, rfl, r0, r1, hx⟩ := vr j (by rw [HRL.out]; exact hjt)
          have bx := HRB.out j
          obtain ⟨p, hp⟩ : ∃ z, (S.getD j (0, 1)).1 = z := ⟨_, rfl⟩
          obtain ⟨q, hq'⟩ : ∃ z, (S.getD j (0, 1)).2 = z := ⟨_, rfl⟩
          obtain ⟨x, hx'⟩ : ∃ z, r.getD j 0 = z := ⟨_, rfl⟩
          obtain ⟨NU, hNU⟩ : ∃ z, (numF r S j).1 = z := ⟨_, rfl⟩
          obtain ⟨DE, hDE⟩ : ∃ z, (numF r S j).2 = z := ⟨_, rfl⟩
          rw [hp] at hi1 bp hstep
          rw [hq'] at hi2 bq hstep
          rw [hx'] at hx bx hstep
          rw [hNU] at bN hstep VN2
          rw [hDE] at bD hstep VD2
          have HST := Lib.hid hstep
          have HSB0 := Lib.hid s0
          have HS7 := Lib.hid (And.intro s0 (And.intro s1 (And.intro s2 s3)))
          have HVQ := Lib.hid (show w7.heap.size < wq.heap.size from typ_lt VN2.out.1)
          have q0 := bkeep hBq r0
          have q1 := bkeep hBq r1
          have zq0 := cell_lt q0
          have HX := Lib.hid hx
          have HI := Lib.hid (And.intro hi1 hi2)
          have HJT := Lib.hid hjt
          have HBS := Lib.hid (And.intro bp (And.intro bq (And.intro bN (And.intro bD bx))))
          have hBy := Below.refl wq.heap.size wq
          clear hstep hi1 hi2 hq he vr r0 r1 hx bx bp bq bN bD hp hq' hx' hNU hDE hSj hjt VN VD
          go_wp2
          refine wp_name fun w9 hW9 => ?_
          have hb9 : Below wq.heap.size wq w9 := by rw [hW9]; repeat (first | exact Below.refl _ _ | exact hBy | refine Below.drew ?_ | refine below_drewN ?_ _ | refine bset ?_ (by simp <;> omega) _ | refine bal ?_ _)
          have HX9 := Lib.hid (show w9.cell? ⟨wq.heap.size, 0, none⟩ = some (.bool xn) ∧ w9.cell? ⟨wq.heap.size, 1, none⟩ = some (.slice xa xl xk) from by rw [hW9]; simp [go_sem])
          have VN9 := Lib.hid (VN2.out.keep hb9)
          have VD9 := Lib.hid (VD2.out.keep hb9)
          have hb79 := bthen hBq hb9
          have HXI := Lib.hid (HX.out.keep hb79)
          have HI9 := Lib.hid (And.intro (HI.out.1.keep hb79) (HI.out.2.keep hb79))
          clear hW9 q0 q1 zq0 hBy VN2 VD2
          obtain ⟨-, vn, va, vl, vc, v0, v1, vf0, vf1, vI⟩ := VN9.out
          obtain ⟨-, dn, da, dl, dc, d0, d1, -, -, dI⟩ := VD9.out
          have VI := Lib.hid (And.intro vI dI)
          have HC := Lib.hid (show ∀ V, Below w9.heap.size w9 V → V.cell? ⟨sb, so + j * 4, none⟩ = some (.bool n1) ∧ V.cell? ⟨sb, so + j * 4 + 1, none⟩ = some (.slice a1 l1 k1) ∧ V.cell? ⟨sb, so + j * 4 + 2, none⟩ = some (.bool n2) ∧ V.cell? ⟨sb, so + j * 4 + 3, none⟩ = some (.slice a2 l2 k2) ∧ V.cell? ⟨w7.heap.size, 0, none⟩ = some (.bool vn) ∧ V.cell? ⟨w7.heap.size, 1, none⟩ = some (.slice va vl vc) ∧ V.cell? ⟨w7.heap.size + 1, 0, none⟩ = some (.bool dn) ∧ V.cell? ⟨w7.heap.size + 1, 1, none⟩ = some (.slice da dl dc) ∧ V.cell? ⟨wq.heap.size, 0, none⟩ = some (.bool xn) ∧ V.cell? ⟨wq.heap.size, 1, none⟩ = some (.slice xa xl xk) ∧ V.frozen? ⟨w7.heap.size, 0, none⟩ = false ∧ V.frozen? ⟨w7.heap.size, 1, none⟩ = false from fun V k => ⟨bkeep k (bkeep hb79 s0), bkeep k (bkeep hb79 s1), bkeep k (bkeep hb79 s2), bkeep k (bkeep hb79 s3), bkeep k v0, bkeep k v1, bkeep k d0, bkeep k d1, bkeep k HX9.out.1, bkeep k HX9.out.2, bkeepf k v0 vf0, bkeepf k v1 vf1⟩)
          have hjq : (Q + 160) * j + 1 ≤ 500000000 := by
            have h1 := HQB.out
            have h2 := HJT.out
            have := Nat.mul_le_mul (show Q + 160 ≤ 5000160 by omega) (show j ≤ 16 by omega)
            omega
          have hQ5 := HQB.out
          have DN := Lib.hid (fun W (k : Below w9.heap.size w9 W) => den_c (.agg #[.bool n1, .slice a1 l1 k1, .bool n2, .slice a2 l2 k2]) p q (Q + 1) W ⟨n1, a1, l1, k1, n2, a2, l2, k2, rfl, HI9.out.1.keep k, HI9.out.2.keep k⟩ (bd_pred HBS.out.2.1) (bd_one' (by omega)) (by omega))
          have NM := Lib.hid (fun W (k : Below w9.heap.size w9 W) => num_c (.agg #[.bool n1, .slice a1 l1 k1, .bool n2, .slice a2 l2 k2]) p q W ⟨n1, a1, l1, k1, n2, a2, l2, k2, rfl, HI9.out.1.keep k, HI9.out.2.keep k⟩)
          have M1 := Lib.hid (fun z W (k : Below w9.heap.size w9 W) (hz : IsInt W z q) => mul_c _ z NU q _ _ W (VI.out.1.keep k) hz HBS.out.2.2.1 HBS.out.2.1 (by omega) (by omega))
          have M2 := Lib.hid (fun z W (k : Below w9.heap.size w9 W) (hz : IsInt W z p) => mul_c _ z x p _ _ W (HXI.out.keep k) hz HBS.out.2.2.2.2 HBS.out.1 (by omega) (by omega))
          have M3 := Lib.hid (fun z W (k : Below w9.heap.size w9 W) (hz : IsInt W z (x * p)) => mul_c z _ (x * p) DE _ _ W hz (VI.out.2.keep k) (HBS.out.2.2.2.2.mul HBS.out.1) HBS.out.2.2.2.1 (by omega) (by omega))
          have AD := Lib.hid (fun z z' W (hz : IsInt W z (NU * q)) (hz' : IsInt W z' (x * p * DE)) => addI_c z z' (NU * q) (x * p * DE) ((Q + 160) * j + 1 + Q + 159) W hz hz' ((HBS.out.2.2.1.mul HBS.out.2.1).mono (by omega)) (((HBS.out.2.2.2.2.mul HBS.out.1).mul HBS.out.2.2.2.1).mono (by omega)) (by omega))
          obtain ⟨s0, s1, s2, s3, v0, v1, d0, d1, x0, x1, vf0, vf1⟩ := HC.out w9 (Below.refl _ _)
          have zs := cell_lt s0
          have zv := cell_lt v0
          have zd := cell_lt d0
          have zx := cell_lt x0
          have hBw := Below.refl w9.heap.size w9
          clear vI dI
          have HCS := Lib.hid (fun V (k : Below w9.heap.size w9 V) => by
            have h := HC.out V k
            exact (show V.cell? ⟨sb, so + j * 4, none⟩ = some (.bool n1) ∧ V.cell? ⟨sb, so + j * 4 + 1, none⟩ = some (.slice a1 l1 k1) ∧ V.cell? ⟨sb, so + j * 4 + 2, none⟩ = some (.bool n2) ∧ V.cell? ⟨sb, so + j * 4 + 3, none⟩ = some (.slice a2 l2 k2) ∧ V.cell? ⟨w7.heap.size + 1, 0, none⟩ = some (.bool dn) ∧ V.cell? ⟨w7.heap.size + 1, 1, none⟩ = some (.slice da dl dc) ∧ V.cell? ⟨wq.heap.size, 0, none⟩ = some (.bool xn) ∧ V.cell? ⟨wq.heap.size, 1, none⟩ = some (.slice xa xl xk) from ⟨h.1, h.2.1, h.2.2.1, h.2.2.2.1, h.2.2.2.2.2.2.1, h.2.2.2.2.2.2.2.1, h.2.2.2.2.2.2.2.2.1, h.2.2.2.2.2.2.2.2.2.1⟩))
          have hsn : sb ≠ w7.heap.size := by have := cell_lt (HSB0.out); omega
          have hdn : w7.heap.size + 1 ≠ w7.heap.size := by omega
          have hxn : wq.heap.size ≠ w7.heap.size := by have h2 := HVQ.out; omega
          refine wp_region_held_drew (S := (fun V => V.cell? ⟨sb, so + j * 4, none⟩ = some (.bool n1) ∧ V.cell? ⟨sb, so + j * 4 + 1, none⟩ = some (.slice a1 l1 k1) ∧ V.cell? ⟨sb, so + j * 4 + 2, none⟩ = some (.bool n2) ∧ V.cell? ⟨sb, so + j * 4 + 3, none⟩ = some (.slice a2 l2 k2) ∧ V.cell? ⟨w7.heap.size + 1, 0, none⟩ = some (.bool dn) ∧ V.cell? ⟨w7.heap.size + 1, 1, none⟩ = some (.slice da dl dc) ∧ V.cell? ⟨wq.heap.size, 0, none⟩ = some (.bool xn) ∧ V.cell? ⟨wq.heap.size, 1, none⟩ = some (.slice xa xl xk))) (by kernel_rfl) (HCS.out _ (Below.refl _ _).drew) (fun hHeld => ?_)
          refine wpAnyH_take (i := 1) (v := ?_) rfl (by kernel_rfl) (by kernel_rfl) (by kernel_rfl) (fun _ _ _ h => h) (Or.inl ⟨by rfl, ?_⟩) (by assumption) ?_
          rotate_left
          · intro w hSw
            try dsimp only at hSw
            try go_simp
            try with_reducible rfl
          try simp only [Act.put, List.setIfInBounds_toArray, List.set_cons_zero, List.set_cons_succ]
          refine wpAnyH_take (i := 2) (v := ?_) rfl (by kernel_rfl) (by kernel_rfl) (by kernel_rfl) (fun _ _ _ h => h) (Or.inl ⟨by rfl, ?_⟩) (by assumption) ?_
          rotate_left
          · intro w hSw
            try dsimp only at hSw
            try go_simp
            try with_reducible rfl
          try simp only [Act.put, List.setIfInBounds_toArray, List.set_cons_zero, List.set_cons_succ]
          refine wpAnyH_take (i := 3) (v := ?_) rfl (by kernel_rfl) (by kernel_rfl) (by kernel_rfl) (fun _ _ _ h => h) (Or.inl ⟨by rfl, ?_⟩) (by assumption) ?_
          rotate_left
          · intro w hSw
            try dsimp only at hSw
            try go_simp
            try with_reducible rfl
          try simp only [Act.put, List.setIfInBounds_toArray, List.set_cons_zero, List.set_cons_succ]
          refine wpAnyH_take (i := 4) (v := ?_) rfl (by kernel_rfl) (by kernel_rfl) (by kernel_rfl) (fun _ _ _ h => h) (Or.inl ⟨by rfl, ?_⟩) (by assumption) ?_
          rotate_left
          · intro w hSw
            try dsimp only at hSw
            try go_simp
            try with_reducible rfl
          try simp only [Act.put, List.setIfInBounds_toArray, List.set_cons_zero, List.set_cons_succ]
          refine wpAnyH_take (i := 7) (v := ?_) rfl (by kernel_rfl) (by kernel_rfl) (by kernel_rfl) (fun _ _ _ h => h) (Or.inl ⟨by rfl, ?_⟩) (by assumption) ?_
          rotate_left
          · intro w hSw
            try dsimp only at hSw
            try go_simp
            try with_reducible rfl
          try simp only [Act.put, List.setIfInBounds_toArray, List.set_cons_zero, List.set_cons_succ]
          refine wpAnyH_take (i := 8) (v := ?_) rfl (by kernel_rfl) (by kernel_rfl) (by kernel_rfl) (fun _ _ _ h => h) (Or.inl ⟨by rfl, ?_⟩) (by assumption) ?_
          rotate_left
          · intro w hSw
            try dsimp only at hSw
            try go_simp
            try with_reducible rfl
          try simp only [Act.put, List.setIfInBounds_toArray, List.set_cons_zero, List.set_cons_succ]
          refine wpAnyH_take (i := 9) (v := ?_) rfl (by kernel_rfl) (by kernel_rfl) (by kernel_rfl) (fun _ _ _ h => h) (Or.inl ⟨by rfl, ?_⟩) (by assumption) ?_
          rotate_left
          · intro w hSw
            try dsimp only at hSw
            try go_simp
            try with_reducible rfl
          try simp only [Act.put, List.setIfInBounds_toArray, List.set_cons_zero, List.set_cons_succ]
          refine wpAnyH_take (i := 10) (v := ?_) rfl (by kernel_rfl) (by kernel_rfl) (by kernel_rfl) (fun _ _ _ h => h) (Or.inl ⟨by rfl, ?_⟩) (by assumption) ?_
          rotate_left
          · intro w hSw
            try dsimp only at hSw
            try go_simp
            try with_reducible rfl
          try simp only [Act.put, List.setIfInBounds_toArray, List.set_cons_zero, List.set_cons_succ]
          refine wpAnyH_take (i := 11) (v := ?_) rfl (by kernel_rfl) (by kernel_rfl) (by kernel_rfl) (fun _ _ _ h => h) (Or.inl ⟨by rfl, ?_⟩) (by assumption) ?_
          rotate_left
          · intro w hSw
            try dsimp only at hSw
            try go_simp
            try with_reducible rfl
          try simp only [Act.put, List.setIfInBounds_toArray, List.set_cons_zero, List.set_cons_succ]
          refine wpAnyH_take (i := 14) (v := ?_) rfl (by kernel_rfl) (by kernel_rfl) (by kernel_rfl) (fun _ _ _ h => h) (Or.inl ⟨by rfl, ?_⟩) (by assumption) ?_
          rotate_left
          · intro w hSw
            try dsimp only at hSw
            try go_simp
            try with_reducible rfl
          try simp only [Act.put, List.setIfInBounds_toArray, List.set_cons_zero, List.set_cons_succ]
          refine wpAnyH_ready (rs := [0, 5]) (by kernel_rfl) (by simp) ?_
          refine AllReadyH.cons rfl (fun K hK => ?_) (AllReadyH.cons rfl (fun K hK => ?_) AllReadyH.nil)
          · go_simp
            refine hK.out _ _ ?_ (fun hHeld => ?_)
            · exact HCS.out _ (by repeat (first | exact Below.refl _ _ | exact hBw | refine Below.drew ?_ | refine below_drewN ?_ _ | refine bset ?_ (by simp <;> omega) _ | refine bal ?_ _))
            clear hK K
            try simp only [Act.put, List.setIfInBounds_toArray, List.set_cons_zero, List.set_cons_succ]
            refine wpAnyH_ready (rs := [5]) (by kernel_rfl) (by simp) ?_
            refine AllReadyH.cons rfl (fun K hK => ?_) AllReadyH.nil
            try go_simp
            go_at_call 114; (with_reducible refine (DN.out _ ?_).mono ?_); (repeat (first | exact Below.refl _ _ | exact hBw | refine Below.drew ?_ | refine below_drewN ?_ _ | refine bset ?_ (by simp <;> omega) _ | refine bal ?_ _)); rintro e w10 ⟨⟨y10, rfl, hy⟩, hb10⟩; (have hBd : Below w9.heap.size w9 w10 := bthen (by repeat (first | exact Below.refl _ _ | exact hBw | refine Below.drew ?_ | refine below_drewN ?_ _ | refine bset ?_ (by simp <;> omega) _ | refine bal ?_ _)) hb10; clear hBw; have hBw := hBd; clear hBd); obtain ⟨s0, s1, s2, s3, v0, v1, d0, d1, x0, x1, vf0, vf1⟩ := HC.out w10 hBw; have HY10 := Lib.hid hy; have hy10 := Below.refl w10.heap.size w10; obtain ⟨n10, a10, l10, c10, rfl⟩ := hy.lit; clear hy
            try go_wp2_with fail
            refine hK.out _ _ ?_ (fun hHeld => ?_)
            · exact HCS.out _ (by repeat (first | exact Below.refl _ _ | exact hBw | refine Below.drew ?_ | refine below_drewN ?_ _ | refine bset ?_ (by simp <;> omega) _ | refine bal ?_ _))
            clear hK K
            try simp only [Act.put, List.setIfInBounds_toArray, List.set_cons_zero, List.set_cons_succ]
            refine wpAnyH_ready (rs := [6]) (by kernel_rfl) (by simp) ?_
            refine AllReadyH.cons rfl (fun K hK => ?_) AllReadyH.nil
            try go_simp
            go_at_call 95; (with_reducible refine (M1.out _ _ ?_ (HY10.out.keep ?_)).mono ?_); (repeat (first | exact Below.refl _ _ | exact hBw | refine Below.drew ?_ | refine below_drewN ?_ _ | refine bset ?_ (by simp <;> omega) _ | refine bal ?_ _)); (repeat (first | exact Below.refl _ _ | exact hy10 | refine Below.drew ?_ | refine below_drewN ?_ _ | refine bset ?_ (by simp <;> omega) _ | refine bal ?_ _)); rintro e w11 ⟨⟨y11, rfl, hy⟩, hb11⟩; (have hBd : Below w9.heap.size w9 w11 := bthen (by repeat (first | exact Below.refl _ _ | exact hBw | refine Below.drew ?_ | refine below_drewN ?_ _ | refine bset ?_ (by simp <;> omega) _ | refine bal ?_ _)) hb11; clear hBw; have hBw := hBd; clear hBd); obtain ⟨s0, s1, s2, s3, v0, v1, d0, d1, x0, x1, vf0, vf1⟩ := HC.out w11 hBw; have HY11 := Lib.hid hy; have hy11 := Below.refl w11.heap.size w11; obtain ⟨n11, a11, l11, c11, rfl⟩ := hy.lit; clear hy
            try go_wp2_with fail
            refine hK.out _ _ ?_ (fun hHeld => ?_)
            · exact HCS.out _ (by repeat (first | exact Below.refl _ _ | exact hBw | refine Below.drew ?_ | refine below_drewN ?_ _ | refine bset ?_ (by simp <;> omega) _ | refine bal ?_ _))
            clear hK K
            try simp only [Act.put, List.setIfInBounds_toArray, List.set_cons_zero, List.set_cons_succ]
            refine wpAnyH_ready (rs := [12]) (by kernel_rfl) (by simp) ?_
            refine AllReadyH.cons rfl (fun K hK => ?_) AllReadyH.nil
            try go_simp
            go_at_call 118; (with_reducible refine (NM.out _ ?_).mono ?_); (repeat (first | exact Below.refl _ _ | exact hBw | refine Below.drew ?_ | refine below_drewN ?_ _ | refine bset ?_ (by simp <;> omega) _ | refine bal ?_ _)); rintro e w12 ⟨⟨y12, rfl, hy⟩, hb12⟩; (have hBd : Below w9.heap.size w9 w12 := bthen (by repeat (first | exact Below.refl _ _ | exact hBw | refine Below.drew ?_ | refine below_drewN ?_ _ | refine bset ?_ (by simp <;> omega) _ | refine bal ?_ _)) hb12; clear hBw; have hBw := hBd; clear hBd); obtain ⟨s0, s1, s2, s3, v0, v1, d0, d1, x0, x1, vf0, vf1⟩ := HC.out w12 hBw; have g12 : Below w11.heap.size w11 w12 := bthen (by repeat (first | exact Below.refl _ _ | exact hy11 | refine Below.drew ?_ | refine below_drewN ?_ _ | refine bset ?_ (by simp <;> omega) _ | refine bal ?_ _)) hb12; have HY12 := Lib.hid hy; have hy12 := Below.refl w12.heap.size w12; obtain ⟨n12, a12, l12, c12, rfl⟩ := hy.lit; clear hy
            try go_wp2_with fail
            refine hK.out _ _ ?_ (fun hHeld => ?_)
            · exact HCS.out _ (by repeat (first | exact Below.refl _ _ | exact hBw | refine Below.drew ?_ | refine below_drewN ?_ _ | refine bset ?_ (by simp <;> omega) _ | refine bal ?_ _))
            clear hK K
            try simp only [Act.put, List.setIfInBounds_toArray, List.set_cons_zero, List.set_cons_succ]
            refine wpAnyH_ready (rs := [13]) (by kernel_rfl) (by simp) ?_
            refine AllReadyH.cons rfl (fun K hK => ?_) AllReadyH.nil
            try go_simp
            go_at_call 95; (with_reducible refine (M2.out _ _ ?_ (HY12.out.keep ?_)).mono ?_); (repeat (first | exact Below.refl _ _ | exact hBw | refine Below.drew ?_ | refine below_drewN ?_ _ | refine bset ?_ (by simp <;> omega) _ | refine bal ?_ _)); (repeat (first | exact Below.refl _ _ | exact hy12 | refine Below.drew ?_ | refine below_drewN ?_ _ | refine bset ?_ (by simp <;> omega) _ | refine bal ?_ _)); rintro e w13 ⟨⟨y13, rfl, hy⟩, hb13⟩; (have hBd : Below w9.heap.size w9 w13 := bthen (by repeat (first | exact Below.refl _ _ | exact hBw | refine Below.drew ?_ | refine below_drewN ?_ _ | refine bset ?_ (by simp <;> omega) _ | refine bal ?_ _)) hb13; clear hBw; have hBw := hBd; clear hBd); obtain ⟨s0, s1, s2, s3, v0, v1, d0, d1, x0, x1, vf0, vf1⟩ := HC.out w13 hBw; have g13 : Below w11.heap.size w11 w13 := bthen g12 (bthen (by repeat (first | exact Below.refl _ _ | exact hy12 | refine Below.drew ?_ | refine below_drewN ?_ _ | refine bset ?_ (by simp <;> omega) _ | refine bal ?_ _)) hb13); have HY13 := Lib.hid hy; have hy13 := Below.refl w13.heap.size w13; obtain ⟨n13, a13, l13, c13, rfl⟩ := hy.lit; clear hy
            try go_wp2_with fail
            refine hK.out _ _ ?_ (fun hHeld => ?_)
            · exact HCS.out _ (by repeat (first | exact Below.refl _ _ | exact hBw | refine Below.drew ?_ | refine below_drewN ?_ _ | refine bset ?_ (by simp <;> omega) _ | refine bal ?_ _))
            clear hK K
            try simp only [Act.put, List.setIfInBounds_toArray, List.set_cons_zero, List.set_cons_succ]
            refine wpAnyH_ready (rs := [15]) (by kernel_rfl) (by simp) ?_
            refine AllReadyH.cons rfl (fun K hK => ?_) AllReadyH.nil
            try go_simp
            go_at_call 95; (with_reducible refine (M3.out _ _ ?_ (HY13.out.keep ?_)).mono ?_); (repeat (first | exact Below.refl _ _ | exact hBw | refine Below.drew ?_ | refine below_drewN ?_ _ | refine bset ?_ (by simp <;> omega) _ | refine bal ?_ _)); (repeat (first | exact Below.refl _ _ | exact hy13 | refine Below.drew ?_ | refine below_drewN ?_ _ | refine bset ?_ (by simp <;> omega) _ | refine bal ?_ _)); rintro e w14 ⟨⟨y14, rfl, hy⟩, hb14⟩; (have hBd : Below w9.heap.size w9 w14 := bthen (by repeat (first | exact Below.refl _ _ | exact hBw | refine Below.drew ?_ | refine below_drewN ?_ _ | refine bset ?_ (by simp <;> omega) _ | refine bal ?_ _)) hb14; clear hBw; have hBw := hBd; clear hBd); obtain ⟨s0, s1, s2, s3, v0, v1, d0, d1, x0, x1, vf0, vf1⟩ := HC.out w14 hBw; have g14 : Below w11.heap.size w11 w14 := bthen g13 (bthen (by repeat (first | exact Below.refl _ _ | exact hy13 | refine Below.drew ?_ | refine below_drewN ?_ _ | refine bset ?_ (by simp <;> omega) _ | refine bal ?_ _)) hb14); have HZ14 := Lib.hid (HY11.out.keep g14); have HY14 := Lib.hid hy; have hy14 := Below.refl w14.heap.size w14; obtain ⟨n14, a14, l14, c14, rfl⟩ := hy.lit; clear hy
            try go_wp2_with fail
            refine hK.out _ _ ?_ (fun hHeld => ?_)
            · exact HCS.out _ (by repeat (first | exact Below.refl _ _ | exact hBw | refine Below.drew ?_ | refine below_drewN ?_ _ | refine bset ?_ (by simp <;> omega) _ | refine bal ?_ _))
            clear hK K
            try simp only [Act.put, List.setIfInBounds_toArray, List.set_cons_zero, List.set_cons_succ]
            refine wpAnyH_ready (rs := [16]) (by kernel_rfl) (by simp) ?_
            refine AllReadyH.cons rfl (fun K hK => ?_) AllReadyH.nil
            try go_simp
            go_at_call 91; (with_reducible refine (AD.out _ _ _ (HZ14.out.keep ?_) (HY14.out.keep ?_)).mono ?_); (repeat (first | exact Below.refl _ _ | exact hy14 | refine Below.drew ?_ | refine below_drewN ?_ _ | refine bset ?_ (by simp <;> omega) _ | refine bal ?_ _)); (repeat (first | exact Below.refl _ _ | exact hy14 | refine Below.drew ?_ | refine below_drewN ?_ _ | refine bset ?_ (by simp <;> omega) _ | refine bal ?_ _)); rintro e w15 ⟨⟨y15, rfl, hy⟩, hb15⟩; (have hBd : Below w9.heap.size w9 w15 := bthen (by repeat (first | exact Below.refl _ _ | exact hBw | refine Below.drew ?_ | refine below_drewN ?_ _ | refine bset ?_ (by simp <;> omega) _ | refine bal ?_ _)) hb15; clear hBw; have hBw := hBd; clear hBd); obtain ⟨s0, s1, s2, s3, v0, v1, d0, d1, x0, x1, vf0, vf1⟩ := HC.out w15 hBw; have zv15 := cell_lt v0; have HS15 := Lib.hid (show w15.cell? ⟨sb, so + j * 4, none⟩ = some (.bool n1) ∧ w15.cell? ⟨sb, so + j * 4 + 1, none⟩ = some (.slice a1 l1 k1) ∧ w15.cell? ⟨sb, so + j * 4 + 2, none⟩ = some (.bool n2) ∧ w15.cell? ⟨sb, so + j * 4 + 3, none⟩ = some (.slice a2 l2 k2) ∧ w15.cell? ⟨w7.heap.size + 1, 0, none⟩ = some (.bool dn) ∧ w15.cell? ⟨w7.heap.size + 1, 1, none⟩ = some (.slice da dl dc) ∧ w15.cell? ⟨wq.heap.size, 0, none⟩ = some (.bool xn) ∧ w15.cell? ⟨wq.heap.size, 1, none⟩ = some (.slice xa xl xk) from ⟨s0, s1, s2, s3, d0, d1, x0, x1⟩); have HY15 := Lib.hid hy; have hy15 := Below.refl w15.heap.size w15; obtain ⟨n15, a15, l15, c15, rfl⟩ := hy.lit; clear hy
            try go_wp2_with fail
            refine hK.out _ _ ?_ (fun hHeld => ?_)
            · exact HCS.out _ (by repeat (first | exact Below.refl _ _ | exact hBw | refine Below.drew ?_ | refine below_drewN ?_ _ | refine bset ?_ (by simp <;> omega) _ | refine bal ?_ _))
            clear hK K
            try simp only [Act.put, List.setIfInBounds_toArray, List.set_cons_zero, List.set_cons_succ]
            refine wpAnyH_ready (rs := [17]) (by kernel_rfl) (by simp) ?_
            refine AllReadyH.cons rfl (fun K hK => ?_) AllReadyH.nil
            try go_simp
            refine hK.out _ _ ?_ (fun hHeld => ?_)
            · exact ⟨put2_keep HS15.out.1 hsn, put2_keep HS15.out.2.1 hsn, put2_keep HS15.out.2.2.1 hsn, put2_keep HS15.out.2.2.2.1 hsn, put2_keep HS15.out.2.2.2.2.1 hdn, put2_keep HS15.out.2.2.2.2.2.1 hdn, put2_keep HS15.out.2.2.2.2.2.2.1 hxn, put2_keep HS15.out.2.2.2.2.2.2.2 hxn⟩
            clear hK K
            try simp only [Act.put, List.setIfInBounds_toArray, List.set_cons_zero, List.set_cons_succ]
            refine wpAnyH_done (by kernel_rfl) ?_ _
            obtain ⟨w16, hW16⟩ : ∃ W, ((w15.setCell ⟨w7.heap.size, 0, none⟩ (.bool n15)).setCell ⟨w7.heap.size, 1, none⟩ (.slice a15 l15 c15)) = W := ⟨_, rfl⟩
            rw [hW16]
            have VN16 := Lib.hid (show VarI w7.heap.size (NU * q + x * p * DE) w16 from by rw [← hW16]; exact (VN9.out.keep hBw).put HY15.out)
            have VD16 := Lib.hid (show VarI (w7.heap.size + 1) DE w16 from by rw [← hW16]; exact (VD9.out.keep hBw).put_far (VN9.out.keep hBw) hdn _ _)
            have hb716 : Below w7.heap.size w7 w16 := by rw [← hW16]; exact bset (bset (bthen hb79 hBw) (Nat.le_refl _) _) (Nat.le_refl _) _
            have HK16 := Lib.hid (And.intro hb716 hdn)
            have DN2 := Lib.hid (fun W (k : Below w16.heap.size w16 W) => den_c (.agg #[.bool n1, .slice a1 l1 k1, .bool n2, .slice a2 l2 k2]) p q (Q + 1) W ⟨n1, a1, l1, k1, n2, a2, l2, k2, rfl, HI.out.1.keep (bthen HK16.out.1 k), HI.out.2.keep (bthen HK16.out.1 k)⟩ (bd_pred HBS.out.2.1) (bd_one' (by omega)) (by have := HQB.out; omega))
            obtain ⟨-, dn', da', dl', dc', t0, t1, tf0, tf1, tI⟩ := VD16.out
            have ME := Lib.hid (fun z W (k : Below w16.heap.size w16 W) (hz : IsInt W z q) => mul_c _ z DE q _ _ W (tI.keep k) hz HBS.out.2.2.2.1 HBS.out.2.1 (by omega) (by omega))
            have HC2 := Lib.hid (show ∀ V, Below w16.heap.size w16 V → V.cell? ⟨sb, so + j * 4, none⟩ = some (.bool n1) ∧ V.cell? ⟨sb, so + j * 4 + 1, none⟩ = some (.slice a1 l1 k1) ∧ V.cell? ⟨sb, so + j * 4 + 2, none⟩ = some (.bool n2) ∧ V.cell? ⟨sb, so + j * 4 + 3, none⟩ = some (.slice a2 l2 k2) ∧ V.cell? ⟨w7.heap.size + 1, 0, none⟩ = some (.bool dn') ∧ V.cell? ⟨w7.heap.size + 1, 1, none⟩ = some (.slice da' dl' dc') ∧ V.frozen? ⟨w7.heap.size + 1, 0, none⟩ = false ∧ V.frozen? ⟨w7.heap.size + 1, 1, none⟩ = false from fun V k => ⟨bkeep k (bkeep HK16.out.1 HS7.out.1), bkeep k (bkeep HK16.out.1 HS7.out.2.1), bkeep k (bkeep HK16.out.1 HS7.out.2.2.1), bkeep k (bkeep HK16.out.1 HS7.out.2.2.2), bkeep k t0, bkeep k t1, bkeepf k t0 tf0, bkeepf k t1 tf1⟩)
            clear hW16 DN NM M1 M2 M3 AD HC HCS HS15 HY10 HY11 HY12 HY13 HY14 HY15 HZ14 hBw hb716 hb79 s0 s1 s2 s3 v0 v1 d0 d1 x0 x1 vf0 vf1 zs zv zd zx tI t0 t1 tf0 tf1 zv15 VN9 VD9 HX9 HXI HI9 hjq
            obtain ⟨s0, s1, s2, s3, t0, t1, tf0, tf1⟩ := HC2.out w16 (Below.refl _ _)
            have zs := cell_lt s0
            have zt := cell_lt t0
            have hBw := Below.refl w16.heap.size w16
            go_wp2
            go_region_law (go_simp; go_wp2_with (first
              | (go_at_call 114; (with_reducible refine (DN2.out _ ?_).mono ?_); (repeat (first | exact Below.refl _ _ | exact hBw | refine Below.drew ?_ | refine below_drewN ?_ _ | refine bset ?_ (by simp <;> omega) _ | refine bal ?_ _)); rintro e w17 ⟨⟨y17, rfl, hy⟩, hb17⟩; (have hBd : Below w16.heap.size w16 w17 := bthen (by repeat (first | exact Below.refl _ _ | exact hBw | refine Below.drew ?_ | refine below_drewN ?_ _ | refine bset ?_ (by simp <;> omega) _ | refine bal ?_ _)) hb17; clear hBw; have hBw := hBd; clear hBd); obtain ⟨s0, s1, s2, s3, t0, t1, tf0, tf1⟩ := HC2.out w17 hBw; have HY17 := Lib.hid hy; have hy17 := Below.refl w17.heap.size w17; obtain ⟨n17, a17, l17, c17, rfl⟩ := hy.lit; clear hy)
              | (go_at_call 95; (with_reducible refine (ME.out _ _ ?_ (HY17.out.keep ?_)).mono ?_); (repeat (first | exact Below.refl _ _ | exact hBw | refine Below.drew ?_ | refine below_drewN ?_ _ | refine bset ?_ (by simp <;> omega) _ | refine bal ?_ _)); (repeat (first | exact Below.refl _ _ | exact hy17 | refine Below.drew ?_ | refine below_drewN ?_ _ | refine bset ?_ (by simp <;> omega) _ | refine bal ?_ _)); rintro e w18 ⟨⟨y18, rfl, hy⟩, hb18⟩; (have hBd : Below w16.heap.size w16 w18 := bthen (by repeat (first | exact Below.refl _ _ | exact hBw | refine Below.drew ?_ | refine below_drewN ?_ _ | refine bset ?_ (by simp <;> omega) _ | refine bal ?_ _)) hb18; clear hBw; have hBw := hBd; clear hBd); obtain ⟨s0, s1, s2, s3, t0, t1, tf0, tf1⟩ := HC2.out w18 hBw; have HY18 := Lib.hid hy; obtain ⟨n18, a18, l18, c18, rfl⟩ := hy.lit; clear hy)
              | fail))
            all_goals
              have VD18 := Lib.hid ((VD16.out.keep hBw).put HY18.out)
              have VN18 := Lib.hid ((VN16.out.keep hBw).put_far (VD16.out.keep hBw) (Ne.symm HK16.out.2) (.bool n18) (.slice a18 l18 c18))
              have hb718 : Below w7.heap.size w7 ((w18.setCell ⟨w7.heap.size + 1, 0, none⟩ (.bool n18)).setCell ⟨w7.heap.size + 1, 1, none⟩ (.slice a18 l18 c18)) := bset (bset (bthen HK16.out.1 hBw) (by show w7.heap.size ≤ w7.heap.size + 1; omega) _) (by show w7.heap.size ≤ w7.heap.size + 1; omega) _
              clear DN2 ME HC2
              go_wp2
              exact ⟨⟨j + 1, HJT.out, by go_num, hb718, Lib.hid (by rw [HST.out.1]; exact VN18.out), Lib.hid (by rw [HST.out.2]; exact VD18.out)⟩, meas HJT.out (by go_num) rfl⟩
          · go_simp
            go_at_call 114; (with_reducible refine (DN.out _ ?_).mono ?_); (repeat (first | exact Below.refl _ _ | exact hBw | refine Below.drew ?_ | refine below_drewN ?_ _ | refine bset ?_ (by simp <;> omega) _ | refine bal ?_ _)); rintro e w10 ⟨⟨y10, rfl, hy⟩, hb10⟩; (have hBd : Below w9.heap.size w9 w10 := bthen (by repeat (first | exact Below.refl _ _ | exact hBw | refine Below.drew ?_ | refine below_drewN ?_ _ | refine bset ?_ (by simp <;> omega) _ | refine bal ?_ _)) hb10; clear hBw; have hBw := hBd; clear hBd); obtain ⟨s0, s1, s2, s3, v0, v1, d0, d1, x0, x1, vf0, vf1⟩ := HC.out w10 hBw; have HY10 := Lib.hid hy; have hy10 := Below.refl w10.heap.size w10; obtain ⟨n10, a10, l10, c10, rfl⟩ := hy.lit; clear hy
            try go_wp2_with fail
            refine hK.out _ _ ?_ (fun hHeld => ?_)
            · exact HCS.out _ (by repeat (first | exact Below.refl _ _ | exact hBw | refine Below.drew ?_ | refine below_drewN ?_ _ | refine bset ?_ (by simp <;> omega) _ | refine bal ?_ _))
            clear hK K
            try simp only [Act.put, List.setIfInBounds_toArray, List.set_cons_zero, List.set_cons_succ]
            refine wpAnyH_ready (rs := [0]) (by kernel_rfl) (by simp) ?_
            refine AllReadyH.cons rfl (fun K hK => ?_) AllReadyH.nil
            try go_simp
            refine hK.out _ _ ?_ (fun hHeld => ?_)
            · exact HCS.out _ (by repeat (first | exact Below.refl _ _ | exact hBw | refine Below.drew ?_ | refine below_drewN ?_ _ | refine bset ?_ (by simp <;> omega) _ | refine bal ?_ _))
            clear hK K
            try simp only [Act.put, List.setIfInBounds_toArray, List.set_cons_zero, List.set_cons_succ]
            refine wpAnyH_ready (rs := [6]) (by kernel_rfl) (by simp) ?_
            refine AllReadyH.cons rfl (fun K hK => ?_) AllReadyH.nil
            try go_simp
            go_at_call 95; (with_reducible refine (M1.out _ _ ?_ (HY10.out.keep ?_)).mono ?_); (repeat (first | exact Below.refl _ _ | exact hBw | refine Below.drew ?_ | refine below_drewN ?_ _ | refine bset ?_ (by simp <;> omega) _ | refine bal ?_ _)); (repeat (first | exact Below.refl _ _ | exact hy10 | refine Below.drew ?_ | refine below_drewN ?_ _ | refine bset ?_ (by simp <;> omega) _ | refine bal ?_ _)); rintro e w11 ⟨⟨y11, rfl, hy⟩, hb11⟩; (have hBd : Below w9.heap.size w9 w11 := bthen (by repeat (first | exact Below.refl _ _ | exact hBw | refine Below.drew ?_ | refine below_drewN ?_ _ | refine bset ?_ (by simp <;> omega) _ | refine bal ?_ _)) hb11; clear hBw; have hBw := hBd; clear hBd); obtain ⟨s0, s1, s2, s3, v0, v1, d0, d1, x0, x1, vf0, vf1⟩ := HC.out w11 hBw; have HY11 := Lib.hid hy; have hy11 := Below.refl w11.heap.size w11; obtain ⟨n11, a11, l11, c11, rfl⟩ := hy.lit; clear hy
            try go_wp2_with fail
            refine hK.out _ _ ?_ (fun hHeld => ?_)
            · exact HCS.out _ (by repeat (first | exact Below.refl _ _ | exact hBw | refine Below.drew ?_ | refine below_drewN ?_ _ | refine bset ?_ (by simp <;> omega) _ | refine bal ?_ _))
            clear hK K
            try simp only [Act.put, List.setIfInBounds_toArray, List.set_cons_zero, List.set_cons_succ]
            refine wpAnyH_ready (rs := [12]) (by kernel_rfl) (by simp) ?_
            refine AllReadyH.cons rfl (fun K hK => ?_) AllReadyH.nil
            try go_simp
            go_at_call 118; (with_reducible refine (NM.out _ ?_).mono ?_); (repeat (first | exact Below.refl _ _ | exact hBw | refine Below.drew ?_ | refine below_drewN ?_ _ | refine bset ?_ (by simp <;> omega) _ | refine bal ?_ _)); rintro e w12 ⟨⟨y12, rfl, hy⟩, hb12⟩; (have hBd : Below w9.heap.size w9 w12 := bthen (by repeat (first | exact Below.refl _ _ | exact hBw | refine Below.drew ?_ | refine below_drewN ?_ _ | refine bset ?_ (by simp <;> omega) _ | refine bal ?_ _)) hb12; clear hBw; have hBw := hBd; clear hBd); obtain ⟨s0, s1, s2, s3, v0, v1, d0, d1, x0, x1, vf0, vf1⟩ := HC.out w12 hBw; have g12 : Below w11.heap.size w11 w12 := bthen (by repeat (first | exact Below.refl _ _ | exact hy11 | refine Below.drew ?_ | refine below_drewN ?_ _ | refine bset ?_ (by simp <;> omega) _ | refine bal ?_ _)) hb12; have HY12 := Lib.hid hy; have hy12 := Below.refl w12.heap.size w12; obtain ⟨n12, a12, l12, c12, rfl⟩ := hy.lit; clear hy
            try go_wp2_with fail
            refine hK.out _ _ ?_ (fun hHeld => ?_)
            · exact HCS.out _ (by repeat (first | exact Below.refl _ _ | exact hBw | refine Below.drew ?_ | refine below_drewN ?_ _ | refine bset ?_ (by simp <;> omega) _ | refine bal ?_ _))
            clear hK K
            try simp only [Act.put, List.setIfInBounds_toArray, List.set_cons_zero, List.set_cons_succ]
            refine wpAnyH_ready (rs := [13]) (by kernel_rfl) (by simp) ?_
            refine AllReadyH.cons rfl (fun K hK => ?_) AllReadyH.nil
            try go_simp
            go_at_call 95; (with_reducible refine (M2.out _ _ ?_ (HY12.out.keep ?_)).mono ?_); (repeat (first | exact Below.refl _ _ | exact hBw | refine Below.drew ?_ | refine below_drewN ?_ _ | refine bset ?_ (by simp <;> omega) _ | refine bal ?_ _)); (repeat (first | exact Below.refl _ _ | exact hy12 | refine Below.drew ?_ | refine below_drewN ?_ _ | refine bset ?_ (by simp <;> omega) _ | refine bal ?_ _)); rintro e w13 ⟨⟨y13, rfl, hy⟩, hb13⟩; (have hBd : Below w9.heap.size w9 w13 := bthen (by repeat (first | exact Below.refl _ _ | exact hBw | refine Below.drew ?_ | refine below_drewN ?_ _ | refine bset ?_ (by simp <;> omega) _ | refine bal ?_ _)) hb13; clear hBw; have hBw := hBd; clear hBd); obtain ⟨s0, s1, s2, s3, v0, v1, d0, d1, x0, x1, vf0, vf1⟩ := HC.out w13 hBw; have g13 : Below w11.heap.size w11 w13 := bthen g12 (bthen (by repeat (first | exact Below.refl _ _ | exact hy12 | refine Below.drew ?_ | refine below_drewN ?_ _ | refine bset ?_ (by simp <;> omega) _ | refine bal ?_ _)) hb13); have HY13 := Lib.hid hy; have hy13 := Below.refl w13.heap.size w13; obtain ⟨n13, a13, l13, c13, rfl⟩ := hy.lit; clear hy
            try go_wp2_with fail
            refine hK.out _ _ ?_ (fun hHeld => ?_)
            · exact HCS.out _ (by repeat (first | exact Below.refl _ _ | exact hBw | refine Below.drew ?_ | refine below_drewN ?_ _ | refine bset ?_ (by simp <;> omega) _ | refine bal ?_ _))
            clear hK K
            try simp only [Act.put, List.setIfInBounds_toArray, List.set_cons_zero, List.set_cons_succ]
            refine wpAnyH_ready (rs := [15]) (by kernel_rfl) (by simp) ?_
            refine AllReadyH.cons rfl (fun K hK => ?_) AllReadyH.nil
            try go_simp
            go_at_call 95; (with_reducible refine (M3.out _ _ ?_ (HY13.out.keep ?_)).mono ?_); (repeat (first | exact Below.refl _ _ | exact hBw | refine Below.drew ?_ | refine below_drewN ?_ _ | refine bset ?_ (by simp <;> omega) _ | refine bal ?_ _)); (repeat (first | exact Below.refl _ _ | exact hy13 | refine Below.drew ?_ | refine below_drewN ?_ _ | refine bset ?_ (by simp <;> omega) _ | refine bal ?_ _)); rintro e w14 ⟨⟨y14, rfl, hy⟩, hb14⟩; (have hBd : Below w9.heap.size w9 w14 := bthen (by repeat (first | exact Below.refl _ _ | exact hBw | refine Below.drew ?_ | refine below_drewN ?_ _ | refine bset ?_ (by simp <;> omega) _ | refine bal ?_ _)) hb14; clear hBw; have hBw := hBd; clear hBd); obtain ⟨s0, s1, s2, s3, v0, v1, d0, d1, x0, x1, vf0, vf1⟩ := HC.out w14 hBw; have g14 : Below w11.heap.size w11 w14 := bthen g13 (bthen (by repeat (first | exact Below.refl _ _ | exact hy13 | refine Below.drew ?_ | refine below_drewN ?_ _ | refine bset ?_ (by simp <;> omega) _ | refine bal ?_ _)) hb14); have HZ14 := Lib.hid (HY11.out.keep g14); have HY14 := Lib.hid hy; have hy14 := Below.refl w14.heap.size w14; obtain ⟨n14, a14, l14, c14, rfl⟩ := hy.lit; clear hy
            try go_wp2_with fail
            refine hK.out _ _ ?_ (fun hHeld => ?_)
            · exact HCS.out _ (by repeat (first | exact Below.refl _ _ | exact hBw | refine Below.drew ?_ | refine below_drewN ?_ _ | refine bset ?_ (by simp <;> omega) _ | refine bal ?_ _))
            clear hK K
            try simp only [Act.put, List.setIfInBounds_toArray, List.set_cons_zero, List.set_cons_succ]
            refine wpAnyH_ready (rs := [16]) (by kernel_rfl) (by simp) ?_
            refine AllReadyH.cons rfl (fun K hK => ?_) AllReadyH.nil
            try go_simp
            go_at_call 91; (with_reducible refine (AD.out _ _ _ (HZ14.out.keep ?_) (HY14.out.keep ?_)).mono ?_); (repeat (first | exact Below.refl _ _ | exact hy14 | refine Below.drew ?_ | refine below_drewN ?_ _ | refine bset ?_ (by simp <;> omega) _ | refine bal ?_ _)); (repeat (first | exact Below.refl _ _ | exact hy14 | refine Below.drew ?_ | refine below_drewN ?_ _ | refine bset ?_ (by simp <;> omega) _ | refine bal ?_ _)); rintro e w15 ⟨⟨y15, rfl, hy⟩, hb15⟩; (have hBd : Below w9.heap.size w9 w15 := bthen (by repeat (first | exact Below.refl _ _ | exact hBw | refine Below.drew ?_ | refine below_drewN ?_ _ | refine bset ?_ (by simp <;> omega) _ | refine bal ?_ _)) hb15; clear hBw; have hBw := hBd; clear hBd); obtain ⟨s0, s1, s2, s3, v0, v1, d0, d1, x0, x1, vf0, vf1⟩ := HC.out w15 hBw; have zv15 := cell_lt v0; have HS15 := Lib.hid (show w15.cell? ⟨sb, so + j * 4, none⟩ = some (.bool n1) ∧ w15.cell? ⟨sb, so + j * 4 + 1, none⟩ = some (.slice a1 l1 k1) ∧ w15.cell? ⟨sb, so + j * 4 + 2, none⟩ = some (.bool n2) ∧ w15.cell? ⟨sb, so + j * 4 + 3, none⟩ = some (.slice a2 l2 k2) ∧ w15.cell? ⟨w7.heap.size + 1, 0, none⟩ = some (.bool dn) ∧ w15.cell? ⟨w7.heap.size + 1, 1, none⟩ = some (.slice da dl dc) ∧ w15.cell? ⟨wq.heap.size, 0, none⟩ = some (.bool xn) ∧ w15.cell? ⟨wq.heap.size, 1, none⟩ = some (.slice xa xl xk) from ⟨s0, s1, s2, s3, d0, d1, x0, x1⟩); have HY15 := Lib.hid hy; have hy15 := Below.refl w15.heap.size w15; obtain ⟨n15, a15, l15, c15, rfl⟩ := hy.lit; clear hy
            try go_wp2_with fail
            refine hK.out _ _ ?_ (fun hHeld => ?_)
            · exact HCS.out _ (by repeat (first | exact Below.refl _ _ | exact hBw | refine Below.drew ?_ | refine below_drewN ?_ _ | refine bset ?_ (by simp <;> omega) _ | refine bal ?_ _))
            clear hK K
            try simp only [Act.put, List.setIfInBounds_toArray, List.set_cons_zero, List.set_cons_succ]
            refine wpAnyH_ready (rs := [17]) (by kernel_rfl) (by simp) ?_
            refine AllReadyH.cons rfl (fun K hK => ?_) AllReadyH.nil
            try go_simp
            refine hK.out _ _ ?_ (fun hHeld => ?_)
            · exact ⟨put2_keep HS15.out.1 hsn, put2_keep HS15.out.2.1 hsn, put2_keep HS15.out.2.2.1 hsn, put2_keep HS15.out.2.2.2.1 hsn, put2_keep HS15.out.2.2.2.2.1 hdn, put2_keep HS15.out.2.2.2.2.2.1 hdn, put2_keep HS15.out.2.2.2.2.2.2.1 hxn, put2_keep HS15.out.2.2.2.2.2.2.2 hxn⟩
            clear hK K
            try simp only [Act.put, List.setIfInBounds_toArray, List.set_cons_zero, List.set_cons_succ]
            refine wpAnyH_done (by kernel_rfl) ?_ _
            obtain ⟨w16, hW16⟩ : ∃ W, ((w15.setCell ⟨w7.heap.size, 0, none⟩ (.bool n15)).setCell ⟨w7.heap.size, 1, none⟩ (.slice a15 l15 c15)) = W := ⟨_, rfl⟩
            rw [hW16]
            have VN16 := Lib.hid (show VarI w7.heap.size (NU * q + x * p * DE) w16 from by rw [← hW16]; exact (VN9.out.keep hBw).put HY15.out)
            have VD16 := Lib.hid (show VarI (w7.heap.size + 1) DE w16 from by rw [← hW16]; exact (VD9.out.keep hBw).put_far (VN9.out.keep hBw) hdn _ _)
            have hb716 : Below w7.heap.size w7 w16 := by rw [← hW16]; exact bset (bset (bthen hb79 hBw) (Nat.le_refl _) _) (Nat.le_refl _) _
            have HK16 := Lib.hid (And.intro hb716 hdn)
            have DN2 := Lib.hid (fun W (k : Below w16.heap.size w16 W) => den_c (.agg #[.bool n1, .slice a1 l1 k1, .bool n2, .slice a2 l2 k2]) p q (Q + 1) W ⟨n1, a1, l1, k1, n2, a2, l2, k2, rfl, HI.out.1.keep (bthen HK16.out.1 k), HI.out.2.keep (bthen HK16.out.1 k)⟩ (bd_pred HBS.out.2.1) (bd_one' (by omega)) (by have := HQB.out; omega))
            obtain ⟨-, dn', da', dl', dc', t0, t1, tf0, tf1, tI⟩ := VD16.out
            have ME := Lib.hid (fun z W (k : Below w16.heap.size w16 W) (hz : IsInt W z q) => mul_c _ z DE q _ _ W (tI.keep k) hz HBS.out.2.2.2.1 HBS.out.2.1 (by omega) (by omega))
            have HC2 := Lib.hid (show ∀ V, Below w16.heap.size w16 V → V.cell? ⟨sb, so + j * 4, none⟩ = some (.bool n1) ∧ V.cell? ⟨sb, so + j * 4 + 1, none⟩ = some (.slice a1 l1 k1) ∧ V.cell? ⟨sb, so + j * 4 + 2, none⟩ = some (.bool n2) ∧ V.cell? ⟨sb, so + j * 4 + 3, none⟩ = some (.slice a2 l2 k2) ∧ V.cell? ⟨w7.heap.size + 1, 0, none⟩ = some (.bool dn') ∧ V.cell? ⟨w7.heap.size + 1, 1, none⟩ = some (.slice da' dl' dc') ∧ V.frozen? ⟨w7.heap.size + 1, 0, none⟩ = false ∧ V.frozen? ⟨w7.heap.size + 1, 1, none⟩ = false from fun V k => ⟨bkeep k (bkeep HK16.out.1 HS7.out.1), bkeep k (bkeep HK16.out.1 HS7.out.2.1), bkeep k (bkeep HK16.out.1 HS7.out.2.2.1), bkeep k (bkeep HK16.out.1 HS7.out.2.2.2), bkeep k t0, bkeep k t1, bkeepf k t0 tf0, bkeepf k t1 tf1⟩)
            clear hW16 DN NM M1 M2 M3 AD HC HCS HS15 HY10 HY11 HY12 HY13 HY14 HY15 HZ14 hBw hb716 hb79 s0 s1 s2 s3 v0 v1 d0 d1 x0 x1 vf0 vf1 zs zv zd zx tI t0 t1 tf0 tf1 zv15 VN9 VD9 HX9 HXI HI9 hjq
            obtain ⟨s0, s1, s2, s3, t0, t1, tf0, tf1⟩ := HC2.out w16 (Below.refl _ _)
            have zs := cell_lt s0
            have zt := cell_lt t0
            have hBw := Below.refl w16.heap.size w16
            go_wp2
            go_region_law (go_simp; go_wp2_with (first
              | (go_at_call 114; (with_reducible refine (DN2.out _ ?_).mono ?_); (repeat (first | exact Below.refl _ _ | exact hBw | refine Below.drew ?_ | refine below_drewN ?_ _ | refine bset ?_ (by simp <;> omega) _ | refine bal ?_ _)); rintro e w17 ⟨⟨y17, rfl, hy⟩, hb17⟩; (have hBd : Below w16.heap.size w16 w17 := bthen (by repeat (first | exact Below.refl _ _ | exact hBw | refine Below.drew ?_ | refine below_drewN ?_ _ | refine bset ?_ (by simp <;> omega) _ | refine bal ?_ _)) hb17; clear hBw; have hBw := hBd; clear hBd); obtain ⟨s0, s1, s2, s3, t0, t1, tf0, tf1⟩ := HC2.out w17 hBw; have HY17 := Lib.hid hy; have hy17 := Below.refl w17.heap.size w17; obtain ⟨n17, a17, l17, c17, rfl⟩ := hy.lit; clear hy)
              | (go_at_call 95; (with_reducible refine (ME.out _ _ ?_ (HY17.out.keep ?_)).mono ?_); (repeat (first | exact Below.refl _ _ | exact hBw | refine Below.drew ?_ | refine below_drewN ?_ _ | refine bset ?_ (by simp <;> omega) _ | refine bal ?_ _)); (repeat (first | exact Below.refl _ _ | exact hy17 | refine Below.drew ?_ | refine below_drewN ?_ _ | refine bset ?_ (by simp <;> omega) _ | refine bal ?_ _)); rintro e w18 ⟨⟨y18, rfl, hy⟩, hb18⟩; (have hBd : Below w16.heap.size w16 w18 := bthen (by repeat (first | exact Below.refl _ _ | exact hBw | refine Below.drew ?_ | refine below_drewN ?_ _ | refine bset ?_ (by simp <;> omega) _ | refine bal ?_ _)) hb18; clear hBw; have hBw := hBd; clear hBd); obtain ⟨s0, s1, s2, s3, t0, t1, tf0, tf1⟩ := HC2.out w18 hBw; have HY18 := Lib.hid hy; obtain ⟨n18, a18, l18, c18, rfl⟩ := hy.lit; clear hy)
              | fail))
            all_goals
              have VD18 := Lib.hid ((VD16.out.keep hBw).put HY18.out)
              have VN18 := Lib.hid ((VN16.out.keep hBw).put_far (VD16.out.keep hBw) (Ne.symm HK16.out.2) (.bool n18) (.slice a18 l18 c18))
              have hb718 : Below w7.heap.size w7 ((w18.setCell ⟨w7.heap.size + 1, 0, none⟩ (.bool n18)).setCell ⟨w7.heap.size + 1, 1, none⟩ (.slice a18 l18 c18)) := bset (bset (bthen HK16.out.1 hBw) (by show w7.heap.size ≤ w7.heap.size + 1; omega) _) (by show w7.heap.size ≤ w7.heap.size + 1; omega) _
              clear DN2 ME HC2
              go_wp2
              exact ⟨⟨j + 1, HJT.out, by go_num, hb718, Lib.hid (by rw [HST.out.1]; exact VN18.out), Lib.hid (by rw [HST.out.2]; exact VD18.out)⟩, meas HJT.out (by go_num) rfl⟩
end Go.Proofs.YthaohpfbengabaaGreatDoor

