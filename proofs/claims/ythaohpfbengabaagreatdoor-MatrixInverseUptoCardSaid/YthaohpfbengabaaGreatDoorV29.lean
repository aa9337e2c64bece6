/- MatrixInverse: a matrix times its adjugate, times its inverse; what is solved is turned back. -/
import Derived.Test.YthaohpfbengabaaGreatDoorV28
import Derived.Test.YthaohpfbengabaaGreatDoorV27
import Derived.Test.YthaohpfbengabaaGreatDoorV24
import Derived.Test.YthaohpfbengabaaGreatDoorV14
import Derived.Deep.DeepCutAuto
import Derived.BigQuiet
set_option linter.unusedVariables false
set_option linter.unusedSimpArgs false
namespace Go.Proofs.YthaohpfbengabaaGreatDoor
open Num
open Go.ChangeShapes Go.WideShapes Go.ChangeAt Go.RowKit
set_option linter.unusedVariables false
set_option linter.unusedSimpArgs false
attribute [local go_sem ↓] Go.wp_at_zero Go.wp_at_succ
theorem sign_is {v : Value} {x s : Int} {w : World} (h : IsInt w v x) (e : x.sign = s) : Calls Tryz.prog 15 #[v] w fun e w' => e = .returned (.int .i64 s) ∧ Below w.heap.size w w' := by
  rw [← e]; exact sign_c v x w h
theorem sign_zero {v : Value} {w : World} (h : IsInt w v 0) : Calls Tryz.prog 15 #[v] w fun e w' => e = .returned (.int .i64 0) ∧ Below w.heap.size w w' := sign_is h rfl
set_option maxRecDepth 100000 in
set_option maxHeartbeats 16000000 in
theorem matrixInverse_h (va vb : Value) (a : Grid) (b : List Int) (w : World) (ha : GridI w va a) (hb : RowI w vb b) (la : a.length ≤ 1048576) (hla : ∀ k, k < a.length → (a.getD k []).length ≤ 1048576) (lb : b.length ≤ 1048576) :
    Calls Tryz.prog 7 #[va, vb] w fun e w' => e = .returned (.bool true) ∧ Below w.heap.size w w' := by
  have BA := Lib.hid (fun W (q : Below w.heap.size w W) => made5_c va a W (ha.keep q) hla (by omega))
  have HBD := Lib.hid (i64_bdM2 ha)
  have HVB := Lib.hid hb
  obtain ⟨aa, ca, rfl, -⟩ := ha
  obtain ⟨ab, cb, rfl, -⟩ := hb
  clear la hla lb
  have hB := Below.refl w.heap.size w
  go_enter Tryz.func7, Tryz.ntmps7
  go_wp2_with fail
  (with_reducible refine (works_c _).mono ?_)
  rintro e w1 ⟨rfl, hb1⟩
  have hB1 : Below w.heap.size w w1 := bthen (by repeat (first | exact Below.refl _ _ | exact hB | refine Below.drew ?_ | refine below_drewN ?_ _ | refine bset ?_ (by simp <;> omega) _ | refine bal ?_ _)) hb1
  clear hb1 hB
  go_wp2_with fail
  (with_reducible refine (BA.out _ ?_).mono ?_); (repeat (first | exact Below.refl _ _ | exact hB1 | refine Below.drew ?_ | refine below_drewN ?_ _ | refine bset ?_ (by simp <;> omega) _ | refine bal ?_ _))
  intro e w2 hP
  obtain ⟨⟨xa, xn, xc, ok1, gx, rfl, hx, hxn, hxo⟩, hb2⟩ := made_any hP HBD.out
  have hB : Below w.heap.size w w2 := bthen (by repeat (first | exact Below.refl _ _ | exact hB1 | refine Below.drew ?_ | refine below_drewN ?_ _ | refine bset ?_ (by simp <;> omega) _ | refine bal ?_ _)) hb2
  have HX := Lib.hid hx
  have HXO := Lib.hid hxo
  have HXN := Lib.hid hxn
  clear BA hb2 hP hx hxn hxo hB1
  have hBw2 := Below.refl w2.heap.size w2
  go_wp2
  refine wp_name fun w3 hW3 => ?_
  have x0 : w3.cell? ⟨w2.heap.size, 0, none⟩ = some (.slice xa xn xc) := by rw [hW3]; exact (by first | assumption | exact cell_new (by with_reducible first | rfl | (simp; done) | (simp; omega)) rfl | (repeat (first | assumption | exact cell_new (by with_reducible first | rfl | (simp; done) | (simp; omega)) rfl | refine cell_alloc ?_ _ | refine cell_drew ?_ | refine cell_drewN ?_ _ | refine cell_far ?_ (by simp) _ | (refine cell_far ?_ (by simp <;> omega) _))) | simp [go_sem, *])
  have zx0 := cell_lt x0
  have hB : Below w.heap.size w w3 := by rw [hW3]; repeat (first | exact Below.refl _ _ | exact hB | refine Below.drew ?_ | refine below_drewN ?_ _ | refine bset ?_ (by simp <;> omega) _ | refine bal ?_ _)
  have hb23 : Below w2.heap.size w2 w3 := by rw [hW3]; repeat (first | exact Below.refl _ _ | exact hBw2 | refine Below.drew ?_ | refine below_drewN ?_ _ | refine bset ?_ (by simp <;> omega) _ | refine bal ?_ _)
  have hz : w.heap.size ≤ w3.heap.size := hB.size
  clear hW3
  clear hBw2
  obtain ⟨cx, hcx⟩ : ∃ q, cols gx = q := ⟨_, rfl⟩
  have HCX := Lib.hid hcx
  have XC := Lib.hid (fun V (q : Below w3.heap.size w3 V) => colsI (HX.out.keep (bthen hb23 q)) HCX.out)
  have XR := Lib.hid (fun V => rowsM_c xa xn xc V)
  clear hcx
  cases ok1
  ·
    refine wp_region_grow (w := w3) (by kernel_rfl) (by kernel_rfl) ?_
    have x0g : ∀ gs, (grow w3 gs).cell? ⟨w2.heap.size, 0, none⟩ = some (.slice xa xn xc) := fun gs => bkeep gs.below x0
    repeat (go_big_quiet_step ((first | (go_at_call 60; with_reducible exact grow_of (XR.out _)) | (go_at_call 61; with_reducible exact grow_of (XC.out _ (Grows.below _))) | fail)))
    refine wpQuiet_nil ?_
    intro w4 hb4
    clear x0g
    have x0 := bkeep hb4 x0
    have hB := bthen hB hb4
    have hz := hB.size
    go_wp2
    go_ret
    exact ⟨rfl, by repeat (first | exact Below.refl _ _ | exact hB | refine Below.drew ?_ | refine below_drewN ?_ _ | refine bset ?_ (by simp <;> omega) _ | refine bal ?_ _)⟩
  by_cases h1 : xn = cx
  rotate_left
  · have hI1 : ((xn : Int) != (cx : Int)) = true := by simp; omega
    clear h1
    refine wp_region_grow (w := w3) (by kernel_rfl) (by kernel_rfl) ?_
    have x0g : ∀ gs, (grow w3 gs).cell? ⟨w2.heap.size, 0, none⟩ = some (.slice xa xn xc) := fun gs => bkeep gs.below x0
    repeat (go_big_quiet_step ((first | (go_at_call 60; with_reducible exact grow_of (XR.out _)) | (go_at_call 61; with_reducible exact grow_of (XC.out _ (Grows.below _))) | fail)))
    refine wpQuiet_nil ?_
    intro w4 hb4
    clear x0g
    have x0 := bkeep hb4 x0
    have hB := bthen hB hb4
    have hz := hB.size
    go_wp2
    go_ret
    exact ⟨rfl, by repeat (first | exact Below.refl _ _ | exact hB | refine Below.drew ?_ | refine below_drewN ?_ _ | refine bset ?_ (by simp <;> omega) _ | refine bal ?_ _)⟩
  have hI1 : ((xn : Int) != (cx : Int)) = false := by simp; omega
  have HE1 := Lib.hid h1
  clear h1
  refine wp_region_grow (w := w3) (by kernel_rfl) (by kernel_rfl) ?_
  have x0g : ∀ gs, (grow w3 gs).cell? ⟨w2.heap.size, 0, none⟩ = some (.slice xa xn xc) := fun gs => bkeep gs.below x0
  repeat (go_big_quiet_step ((first | (go_at_call 60; with_reducible exact grow_of (XR.out _)) | (go_at_call 61; with_reducible exact grow_of (XC.out _ (Grows.below _))) | fail)))
  refine wpQuiet_nil ?_
  intro w4 hb4
  clear x0g
  have x0 := bkeep hb4 x0
  have hB := bthen hB hb4
  have hz := hB.size
  have hk : Below w2.heap.size w2 w4 := bthen hb23 hb4
  obtain ⟨hg1, hm1⟩ := HXO.out rfl
  have MX := Lib.hid (show Mt 64 gx (.agg #[.slice xa xn xc]) w4 from by rw [hg1]; exact hm1.keep hk)
  have ESQ := Lib.hid (show gx.length = cols gx from by rw [HCX.out, ← HE1.out, HXN.out])
  clear hg1 hm1 hb4 hb23 XC XR hI1 HX HXO hk
  have hBw := Below.refl w4.heap.size w4
  have TC := Lib.hid (fun V (q : Below w4.heap.size w4 V) => Mt.det (MX.out.keep q) ESQ.out (by decide) (by decide))
  go_wp2_with fail
  (with_reducible refine (TC.out _ ?_).mono ?_); (repeat (first | exact Below.refl _ _ | exact hBw | refine Below.drew ?_ | refine below_drewN ?_ _ | refine bset ?_ (by simp <;> omega) _ | refine bal ?_ _))
  rintro e w6 ⟨⟨nd, da, dl, dc, rfl, hd⟩, hb6⟩
  have hk : Below w4.heap.size w4 w6 := bthen (by repeat (first | exact Below.refl _ _ | exact hBw | refine Below.drew ?_ | refine below_drewN ?_ _ | refine bset ?_ (by simp <;> omega) _ | refine bal ?_ _)) hb6
  have x0 : w6.cell? ⟨w2.heap.size, 0, none⟩ = some (.slice xa xn xc) := bkc hb6
  have zx0 := cell_lt x0
  have hB : Below w.heap.size w w6 := bthen (by repeat (first | exact Below.refl _ _ | exact hB | refine Below.drew ?_ | refine below_drewN ?_ _ | refine bset ?_ (by simp <;> omega) _ | refine bal ?_ _)) hb6
  have hz : w.heap.size ≤ w6.heap.size := hB.size
  clear TC hBw hb6
  have hBw := Below.refl w6.heap.size w6
  have HD := Lib.hid hd
  clear hd
  obtain ⟨D, hD⟩ : ∃ D, Det.detE gx.length (gat gx) = D := ⟨_, rfl⟩
  rw [hD] at HD
  have HDD := Lib.hid hD
  clear hD
  replace MX := Lib.hid (MX.out.keep hk)
  clear hk
  have TC := Lib.hid (fun V (q : Below w6.heap.size w6 V) => Mt.adj (MX.out.keep q) ESQ.out (by decide) (by decide) HXN.out.symm)
  go_wp2_with fail
  (with_reducible refine (TC.out _ ?_).mono ?_); (repeat (first | exact Below.refl _ _ | exact hBw | refine Below.drew ?_ | refine below_drewN ?_ _ | refine bset ?_ (by simp <;> omega) _ | refine bal ?_ _))
  rintro e w7 ⟨⟨ja, jc, rfl, hm⟩, hb7⟩
  have hk : Below w6.heap.size w6 w7 := bthen (by repeat (first | exact Below.refl _ _ | exact hBw | refine Below.drew ?_ | refine below_drewN ?_ _ | refine bset ?_ (by simp <;> omega) _ | refine bal ?_ _)) hb7
  have x0 : w7.cell? ⟨w2.heap.size, 0, none⟩ = some (.slice xa xn xc) := bkc hb7
  have zx0 := cell_lt x0
  have d0 : w7.cell? ⟨w6.heap.size, 0, none⟩ = some (.bool nd) := bkc hb7
  have zd0 := cell_lt d0
  have d1 : w7.cell? ⟨w6.heap.size, 1, none⟩ = some (.slice da dl dc) := bkc hb7
  have hB : Below w.heap.size w w7 := bthen (by repeat (first | exact Below.refl _ _ | exact hB | refine Below.drew ?_ | refine below_drewN ?_ _ | refine bset ?_ (by simp <;> omega) _ | refine bal ?_ _)) hb7
  have hz : w.heap.size ≤ w7.heap.size := hB.size
  clear TC hBw hb7
  have hBw := Below.refl w7.heap.size w7
  have MA := Lib.hid hm
  clear hm
  replace MX := Lib.hid (MX.out.keep hk)
  replace HD := Lib.hid (HD.out.keep hk)
  clear hk
  have TC := Lib.hid (fun V (q : Below w7.heap.size w7 V) => Mt.times (MX.out.keep q) (MA.out.keep q) (by rw [adj_len]; exact ESQ.out.symm) (by decide) HXN.out.symm)
  go_wp2_with fail
  (with_reducible refine (TC.out _ ?_).mono ?_); (repeat (first | exact Below.refl _ _ | exact hBw | refine Below.drew ?_ | refine below_drewN ?_ _ | refine bset ?_ (by simp <;> omega) _ | refine bal ?_ _))
  rintro e w8 ⟨⟨pa, pc, rfl, hm⟩, hb8⟩
  have hk : Below w7.heap.size w7 w8 := bthen (by repeat (first | exact Below.refl _ _ | exact hBw | refine Below.drew ?_ | refine below_drewN ?_ _ | refine bset ?_ (by simp <;> omega) _ | refine bal ?_ _)) hb8
  have x0 : w8.cell? ⟨w2.heap.size, 0, none⟩ = some (.slice xa xn xc) := bkc hb8
  have zx0 := cell_lt x0
  have d0 : w8.cell? ⟨w6.heap.size, 0, none⟩ = some (.bool nd) := bkc hb8
  have zd0 := cell_lt d0
  have d1 : w8.cell? ⟨w6.heap.size, 1, none⟩ = some (.slice da dl dc) := bkc hb8
  have a0 : w8.cell? ⟨w7.heap.size, 0, none⟩ = some (.slice ja xn jc) := bkc hb8
  have za0 := cell_lt a0
  have hB : Below w.heap.size w w8 := bthen (by repeat (first | exact Below.refl _ _ | exact hB | refine Below.drew ?_ | refine below_drewN ?_ _ | refine bset ?_ (by simp <;> omega) _ | refine bal ?_ _)) hb8
  have hz : w.heap.size ≤ w8.heap.size := hB.size
  clear TC hBw hb8
  have hBw := Below.refl w8.heap.size w8
  have L08 := Lib.hid hz
  have L28 := Lib.hid zx0
  have MP := Lib.hid hm
  clear hm
  replace MX := Lib.hid (MX.out.keep hk)
  replace MA := Lib.hid (MA.out.keep hk)
  replace HD := Lib.hid (HD.out.keep hk)
  clear hk
  have TC := Lib.hid (fun V (q : Below w8.heap.size w8 V) => Mt.times (n := xn) (MA.out.keep q) (MX.out.keep q) (by rw [adj_cols MX.out.sz.1]) (by decide) (by rw [adj_len]; exact HXN.out.symm))
  go_wp2_with fail
  (with_reducible refine (TC.out _ ?_).mono ?_); (repeat (first | exact Below.refl _ _ | exact hBw | refine Below.drew ?_ | refine below_drewN ?_ _ | refine bset ?_ (by simp <;> omega) _ | refine bal ?_ _))
  rintro e w9 ⟨⟨qa, qc, rfl, hm⟩, hb9⟩
  have hk : Below w8.heap.size w8 w9 := bthen (by repeat (first | exact Below.refl _ _ | exact hBw | refine Below.drew ?_ | refine below_drewN ?_ _ | refine bset ?_ (by simp <;> omega) _ | refine bal ?_ _)) hb9
  have HTP := Lib.hid (show typOf w9 w8.heap.size = some 27 from typ_keep (typ_fresh rfl) hb9)
  have x0 : w9.cell? ⟨w2.heap.size, 0, none⟩ = some (.slice xa xn xc) := bkc hb9
  have zx0 := cell_lt x0
  have d0 : w9.cell? ⟨w6.heap.size, 0, none⟩ = some (.bool nd) := bkc hb9
  have zd0 := cell_lt d0
  have d1 : w9.cell? ⟨w6.heap.size, 1, none⟩ = some (.slice da dl dc) := bkc hb9
  have a0 : w9.cell? ⟨w7.heap.size, 0, none⟩ = some (.slice ja xn jc) := bkc hb9
  have za0 := cell_lt a0
  have p0 : w9.cell? ⟨w8.heap.size, 0, none⟩ = some (.slice pa xn pc) := bkc hb9
  have zp0 := cell_lt p0
  have p0f : w9.frozen? ⟨w8.heap.size, 0, none⟩ = false := bkcf (v := .slice pa xn pc) hb9
  have hB : Below w.heap.size w w9 := bthen (by repeat (first | exact Below.refl _ _ | exact hB | refine Below.drew ?_ | refine below_drewN ?_ _ | refine bset ?_ (by simp <;> omega) _ | refine bal ?_ _)) hb9
  have hz : w.heap.size ≤ w9.heap.size := hB.size
  clear TC hBw hb9
  have hBw := Below.refl w9.heap.size w9
  have L09 := Lib.hid hz
  have L29 := Lib.hid zx0
  have L89 := Lib.hid zp0
  have MQ := Lib.hid hm
  clear hm
  replace MX := Lib.hid (MX.out.keep hk)
  replace MP := Lib.hid (MP.out.keep hk)
  replace HD := Lib.hid (HD.out.keep hk)
  clear hk MA
  have HDB := Lib.hid (show Bd (kb 64 16) D from by
    have h := (detE_bd (by decide) MX.out.bd rfl : Bd (kb 64 gx.length) (Det.detE gx.length (gat gx)))
    rw [HDD.out] at h
    exact h.mono (kb_mono 64 MX.out.sz.2.2.1))
  have TC := Lib.hid (fun V (q : Below w9.heap.size w9 V) => unit_c (MP.out.keep q) (HD.out.keep q) HDB.out (by decide) (by rw [times_len, ← HDD.out]; exact mul_adjG ESQ.out MX.out.sz.1))
  go_wp2_with fail
  (with_reducible refine (TC.out _ ?_).mono ?_); (repeat (first | exact Below.refl _ _ | exact hBw | refine Below.drew ?_ | refine below_drewN ?_ _ | refine bset ?_ (by simp <;> omega) _ | refine bal ?_ _))
  rintro e w10 ⟨rfl, hb10⟩
  have hk : Below w9.heap.size w9 w10 := bthen (by repeat (first | exact Below.refl _ _ | exact hBw | refine Below.drew ?_ | refine below_drewN ?_ _ | refine bset ?_ (by simp <;> omega) _ | refine bal ?_ _)) hb10
  have HTQ := Lib.hid (show typOf w10 w9.heap.size = some 27 from typ_keep (typ_fresh rfl) hb10)
  have x0 : w10.cell? ⟨w2.heap.size, 0, none⟩ = some (.slice xa xn xc) := bkc hb10
  have zx0 := cell_lt x0
  have d0 : w10.cell? ⟨w6.heap.size, 0, none⟩ = some (.bool nd) := bkc hb10
  have zd0 := cell_lt d0
  have d1 : w10.cell? ⟨w6.heap.size, 1, none⟩ = some (.slice da dl dc) := bkc hb10
  have p0 : w10.cell? ⟨w8.heap.size, 0, none⟩ = some (.slice pa xn pc) := bkc hb10
  have zp0 := cell_lt p0
  have p0f : w10.frozen? ⟨w8.heap.size, 0, none⟩ = false := bkcf (v := .slice pa xn pc) hb10
  have q0 : w10.cell? ⟨w9.heap.size, 0, none⟩ = some (.slice qa xn qc) := bkc hb10
  have zq0 := cell_lt q0
  have q0f : w10.frozen? ⟨w9.heap.size, 0, none⟩ = false := bkcf (v := .slice qa xn qc) hb10
  have hB : Below w.heap.size w w10 := bthen (by repeat (first | exact Below.refl _ _ | exact hB | refine Below.drew ?_ | refine below_drewN ?_ _ | refine bset ?_ (by simp <;> omega) _ | refine bal ?_ _)) hb10
  have hz : w.heap.size ≤ w10.heap.size := hB.size
  clear TC hBw hb10
  have hBw := Below.refl w10.heap.size w10
  replace HTP := Lib.hid (typ_keep HTP.out hk)
  replace MX := Lib.hid (MX.out.keep hk)
  replace MQ := Lib.hid (MQ.out.keep hk)
  replace HD := Lib.hid (HD.out.keep hk)
  clear hk
  have TC := Lib.hid (fun V (q : Below w10.heap.size w10 V) => unit_c (MQ.out.keep q) (HD.out.keep q) HDB.out (by decide) (by rw [times_len, adj_len, ← HDD.out]; exact adj_mulG ESQ.out MX.out.sz.1))
  go_wp2_with fail
  (with_reducible refine (TC.out _ ?_).mono ?_); (repeat (first | exact Below.refl _ _ | exact hBw | refine Below.drew ?_ | refine below_drewN ?_ _ | refine bset ?_ (by simp <;> omega) _ | refine bal ?_ _))
  rintro e w11 ⟨rfl, hb11⟩
  have hk : Below w10.heap.size w10 w11 := bthen (by repeat (first | exact Below.refl _ _ | exact hBw | refine Below.drew ?_ | refine below_drewN ?_ _ | refine bset ?_ (by simp <;> omega) _ | refine bal ?_ _)) hb11
  have x0 : w11.cell? ⟨w2.heap.size, 0, none⟩ = some (.slice xa xn xc) := bkc hb11
  have zx0 := cell_lt x0
  have d0 : w11.cell? ⟨w6.heap.size, 0, none⟩ = some (.bool nd) := bkc hb11
  have zd0 := cell_lt d0
  have d1 : w11.cell? ⟨w6.heap.size, 1, none⟩ = some (.slice da dl dc) := bkc hb11
  have p0 : w11.cell? ⟨w8.heap.size, 0, none⟩ = some (.slice pa xn pc) := bkc hb11
  have zp0 := cell_lt p0
  have p0f : w11.frozen? ⟨w8.heap.size, 0, none⟩ = false := bkcf (v := .slice pa xn pc) hb11
  have q0 : w11.cell? ⟨w9.heap.size, 0, none⟩ = some (.slice qa xn qc) := bkc hb11
  have zq0 := cell_lt q0
  have q0f : w11.frozen? ⟨w9.heap.size, 0, none⟩ = false := bkcf (v := .slice qa xn qc) hb11
  have hB : Below w.heap.size w w11 := bthen (by repeat (first | exact Below.refl _ _ | exact hB | refine Below.drew ?_ | refine below_drewN ?_ _ | refine bset ?_ (by simp <;> omega) _ | refine bal ?_ _)) hb11
  have hz : w.heap.size ≤ w11.heap.size := hB.size
  clear TC hBw hb11
  have hBw := Below.refl w11.heap.size w11
  replace MX := Lib.hid (MX.out.keep hk)
  replace HD := Lib.hid (HD.out.keep hk)
  replace HTP := Lib.hid (typ_keep HTP.out hk)
  replace HTQ := Lib.hid (typ_keep HTQ.out hk)
  clear hk MP MQ
  by_cases hd0 : D = 0
  · have HD0 := Lib.hid hd0
    clear hd0
    have TC := Lib.hid (fun V (q : Below w11.heap.size w11 V) => Mt.inv_flat (MX.out.keep q) ESQ.out (by decide) (by decide) (by rw [HDD.out]; exact HD0.out))
    go_wp2_with fail
    (with_reducible refine (TC.out _ ?_).mono ?_); (repeat (first | exact Below.refl _ _ | exact hBw | refine Below.drew ?_ | refine below_drewN ?_ _ | refine bset ?_ (by simp <;> omega) _ | refine bal ?_ _))
    rintro e w12 ⟨rfl, hb12⟩
    have hk : Below w11.heap.size w11 w12 := bthen (by repeat (first | exact Below.refl _ _ | exact hBw | refine Below.drew ?_ | refine below_drewN ?_ _ | refine bset ?_ (by simp <;> omega) _ | refine bal ?_ _)) hb12
    have x0 : w12.cell? ⟨w2.heap.size, 0, none⟩ = some (.slice xa xn xc) := bkc hb12
    have zx0 := cell_lt x0
    have d0 : w12.cell? ⟨w6.heap.size, 0, none⟩ = some (.bool nd) := bkc hb12
    have zd0 := cell_lt d0
    have d1 : w12.cell? ⟨w6.heap.size, 1, none⟩ = some (.slice da dl dc) := bkc hb12
    have hB : Below w.heap.size w w12 := bthen (by repeat (first | exact Below.refl _ _ | exact hB | refine Below.drew ?_ | refine below_drewN ?_ _ | refine bset ?_ (by simp <;> omega) _ | refine bal ?_ _)) hb12
    have hz : w.heap.size ≤ w12.heap.size := hB.size
    clear TC hBw hb12
    have hBw := Below.refl w12.heap.size w12
    replace HD := Lib.hid (HD.out.keep hk)
    clear hk
    have TC := Lib.hid (fun V (q : Below w12.heap.size w12 V) => sign_zero (by rw [← HD0.out]; exact HD.out.keep q))
    go_wp2_with fail
    (with_reducible refine (TC.out _ ?_).mono ?_); (repeat (first | exact Below.refl _ _ | exact hBw | refine Below.drew ?_ | refine below_drewN ?_ _ | refine bset ?_ (by simp <;> omega) _ | refine bal ?_ _))
    rintro e w13 ⟨rfl, hb13⟩
    have hk : Below w12.heap.size w12 w13 := bthen (by repeat (first | exact Below.refl _ _ | exact hBw | refine Below.drew ?_ | refine below_drewN ?_ _ | refine bset ?_ (by simp <;> omega) _ | refine bal ?_ _)) hb13
    have x0 : w13.cell? ⟨w2.heap.size, 0, none⟩ = some (.slice xa xn xc) := bkc hb13
    have zx0 := cell_lt x0
    have d0 : w13.cell? ⟨w6.heap.size, 0, none⟩ = some (.bool nd) := bkc hb13
    have zd0 := cell_lt d0
    have d1 : w13.cell? ⟨w6.heap.size, 1, none⟩ = some (.slice da dl dc) := bkc hb13
    have hB : Below w.heap.size w w13 := bthen (by repeat (first | exact Below.refl _ _ | exact hB | refine Below.drew ?_ | refine below_drewN ?_ _ | refine bset ?_ (by simp <;> omega) _ | refine bal ?_ _)) hb13
    have hz : w.heap.size ≤ w13.heap.size := hB.size
    clear TC hBw hb13
    have hBw := Below.refl w13.heap.size w13
    clear hk
    go_wp2
    go_ret
    exact ⟨rfl, by repeat (first | exact Below.refl _ _ | exact hB | refine Below.drew ?_ | refine below_drewN ?_ _ | refine bset ?_ (by simp <;> omega) _ | refine bal ?_ _)⟩
  have HD0 := Lib.hid hd0
  clear hd0
  have TC := Lib.hid (fun V (q : Below w11.heap.size w11 V) => Mt.inv (n := xn) (MX.out.keep q) ESQ.out (by decide) (by decide) (by rw [HDD.out]; exact HD0.out) HXN.out.symm)
  go_wp2_with fail
  (with_reducible refine (TC.out _ ?_).mono ?_); (repeat (first | exact Below.refl _ _ | exact hBw | refine Below.drew ?_ | refine below_drewN ?_ _ | refine bset ?_ (by simp <;> omega) _ | refine bal ?_ _))
  rintro e w12 ⟨⟨va', vc', kn, ka, kl, kc, rfl, hw, hkv⟩, hb12⟩
  have hk : Below w11.heap.size w11 w12 := bthen (by repeat (first | exact Below.refl _ _ | exact hBw | refine Below.drew ?_ | refine below_drewN ?_ _ | refine bset ?_ (by simp <;> omega) _ | refine bal ?_ _)) hb12
  have x0 : w12.cell? ⟨w2.heap.size, 0, none⟩ = some (.slice xa xn xc) := bkc hb12
  have zx0 := cell_lt x0
  have d0 : w12.cell? ⟨w6.heap.size, 0, none⟩ = some (.bool nd) := bkc hb12
  have zd0 := cell_lt d0
  have d1 : w12.cell? ⟨w6.heap.size, 1, none⟩ = some (.slice da dl dc) := bkc hb12
  have p0 : w12.cell? ⟨w8.heap.size, 0, none⟩ = some (.slice pa xn pc) := bkc hb12
  have zp0 := cell_lt p0
  have p0f : w12.frozen? ⟨w8.heap.size, 0, none⟩ = false := bkcf (v := .slice pa xn pc) hb12
  have q0 : w12.cell? ⟨w9.heap.size, 0, none⟩ = some (.slice qa xn qc) := bkc hb12
  have zq0 := cell_lt q0
  have q0f : w12.frozen? ⟨w9.heap.size, 0, none⟩ = false := bkcf (v := .slice qa xn qc) hb12
  have hB : Below w.heap.size w w12 := bthen (by repeat (first | exact Below.refl _ _ | exact hB | refine Below.drew ?_ | refine below_drewN ?_ _ | refine bset ?_ (by simp <;> omega) _ | refine bal ?_ _)) hb12
  have hz : w.heap.size ≤ w12.heap.size := hB.size
  clear TC hBw hb12
  have hBw := Below.refl w12.heap.size w12
  have L812 := Lib.hid zp0
  have L912 := Lib.hid zq0
  have MW := Lib.hid hw
  have HK := Lib.hid hkv
  clear hw hkv
  replace MX := Lib.hid (MX.out.keep hk)
  replace HD := Lib.hid (HD.out.keep hk)
  replace HTP := Lib.hid (typ_keep HTP.out hk)
  replace HTQ := Lib.hid (typ_keep HTQ.out hk)
  clear hk
  obtain ⟨sg, hsg⟩ : ∃ z, D.sign = z := ⟨_, rfl⟩
  have HSG := Lib.hid hsg
  have hsI : (sg == 0) = false := by
    have h0 : ¬ sg = 0 := fun h => HD0.out (Int.sign_eq_zero_iff_zero.1 (hsg.trans h))
    simpa using h0
  clear hsg
  go_upto_region 15 with (fail)
  refine wp_name fun w20 hW20 => ?_
  have x0 : w20.cell? ⟨w2.heap.size, 0, none⟩ = some (.slice xa xn xc) := by rw [hW20]; exact (by first | assumption | exact cell_new (by with_reducible first | rfl | (simp; done) | (simp; omega)) rfl | (repeat (first | assumption | exact cell_new (by with_reducible first | rfl | (simp; done) | (simp; omega)) rfl | refine cell_alloc ?_ _ | refine cell_drew ?_ | refine cell_drewN ?_ _ | refine cell_far ?_ (by simp) _ | (refine cell_far ?_ (by simp <;> omega) _))) | simp [go_sem, *])
  have zx0 := cell_lt x0
  have d0 : w20.cell? ⟨w6.heap.size, 0, none⟩ = some (.bool nd) := by rw [hW20]; exact (by first | assumption | exact cell_new (by with_reducible first | rfl | (simp; done) | (simp; omega)) rfl | (repeat (first | assumption | exact cell_new (by with_reducible first | rfl | (simp; done) | (simp; omega)) rfl | refine cell_alloc ?_ _ | refine cell_drew ?_ | refine cell_drewN ?_ _ | refine cell_far ?_ (by simp) _ | (refine cell_far ?_ (by simp <;> omega) _))) | simp [go_sem, *])
  have zd0 := cell_lt d0
  have d1 : w20.cell? ⟨w6.heap.size, 1, none⟩ = some (.slice da dl dc) := by rw [hW20]; exact (by first | assumption | exact cell_new (by with_reducible first | rfl | (simp; done) | (simp; omega)) rfl | (repeat (first | assumption | exact cell_new (by with_reducible first | rfl | (simp; done) | (simp; omega)) rfl | refine cell_alloc ?_ _ | refine cell_drew ?_ | refine cell_drewN ?_ _ | refine cell_far ?_ (by simp) _ | (refine cell_far ?_ (by simp <;> omega) _))) | simp [go_sem, *])
  have p0f : w20.frozen? ⟨w8.heap.size, 0, none⟩ = false := by rw [hW20]; simp [go_sem, *]
  have p0 : w20.cell? ⟨w8.heap.size, 0, none⟩ = some (.slice pa xn pc) := by rw [hW20]; exact (by first | assumption | exact cell_new (by with_reducible first | rfl | (simp; done) | (simp; omega)) rfl | (repeat (first | assumption | exact cell_new (by with_reducible first | rfl | (simp; done) | (simp; omega)) rfl | refine cell_alloc ?_ _ | refine cell_drew ?_ | refine cell_drewN ?_ _ | refine cell_far ?_ (by simp) _ | (refine cell_far ?_ (by simp <;> omega) _))) | simp [go_sem, *])
  have zp0 := cell_lt p0
  have q0f : w20.frozen? ⟨w9.heap.size, 0, none⟩ = false := by rw [hW20]; simp [go_sem, *]
  have q0 : w20.cell? ⟨w9.heap.size, 0, none⟩ = some (.slice qa xn qc) := by rw [hW20]; exact (by first | assumption | exact cell_new (by with_reducible first | rfl | (simp; done) | (simp; omega)) rfl | (repeat (first | assumption | exact cell_new (by with_reducible first | rfl | (simp; done) | (simp; omega)) rfl | refine cell_alloc ?_ _ | refine cell_drew ?_ | refine cell_drewN ?_ _ | refine cell_far ?_ (by simp) _ | (refine cell_far ?_ (by simp <;> omega) _))) | simp [go_sem, *])
  have zq0 := cell_lt q0
  have v0 : w20.cell? ⟨w12.heap.size, 0, none⟩ = some (.slice va' xn vc') := by rw [hW20]; exact (by first | assumption | exact cell_new (by with_reducible first | rfl | (simp; done) | (simp; omega)) rfl | (repeat (first | assumption | exact cell_new (by with_reducible first | rfl | (simp; done) | (simp; omega)) rfl | refine cell_alloc ?_ _ | refine cell_drew ?_ | refine cell_drewN ?_ _ | refine cell_far ?_ (by simp) _ | (refine cell_far ?_ (by simp <;> omega) _))) | simp [go_sem, *])
  have zv0 := cell_lt v0
  have k0 : w20.cell? ⟨w12.heap.size + 1, 0, none⟩ = some (.bool kn) := by rw [hW20]; exact (by first | assumption | exact cell_new (by with_reducible first | rfl | (simp; done) | (simp; omega)) rfl | (repeat (first | assumption | exact cell_new (by with_reducible first | rfl | (simp; done) | (simp; omega)) rfl | refine cell_alloc ?_ _ | refine cell_drew ?_ | refine cell_drewN ?_ _ | refine cell_far ?_ (by simp) _ | (refine cell_far ?_ (by simp <;> omega) _))) | simp [go_sem, *])
  have zk0 := cell_lt k0
  have k1 : w20.cell? ⟨w12.heap.size + 1, 1, none⟩ = some (.slice ka kl kc) := by rw [hW20]; exact (by first | assumption | exact cell_new (by with_reducible first | rfl | (simp; done) | (simp; omega)) rfl | (repeat (first | assumption | exact cell_new (by with_reducible first | rfl | (simp; done) | (simp; omega)) rfl | refine cell_alloc ?_ _ | refine cell_drew ?_ | refine cell_drewN ?_ _ | refine cell_far ?_ (by simp) _ | (refine cell_far ?_ (by simp <;> omega) _))) | simp [go_sem, *])
  have hB : Below w.heap.size w w20 := by rw [hW20]; repeat (first | exact Below.refl _ _ | exact hB | refine Below.drew ?_ | refine below_drewN ?_ _ | refine bset ?_ (by simp <;> omega) _ | refine bal ?_ _)
  have hk : Below w12.heap.size w12 w20 := by rw [hW20]; repeat (first | exact Below.refl _ _ | exact hBw | refine Below.drew ?_ | refine below_drewN ?_ _ | refine bset ?_ (by simp <;> omega) _ | refine bal ?_ _)
  have hz : w.heap.size ≤ w20.heap.size := hB.size
  clear hW20
  replace MX := Lib.hid (MX.out.keep hk)
  replace MW := Lib.hid (MW.out.keep hk)
  replace HK := Lib.hid (HK.out.keep hk)
  replace HD := Lib.hid (HD.out.keep hk)
  replace HTP := Lib.hid (typ_keep HTP.out hk)
  replace HTQ := Lib.hid (typ_keep HTQ.out hk)
  clear hk hBw
  have hBw := Below.refl w20.heap.size w20
  have TC := Lib.hid (fun V (q : Below w20.heap.size w20 V) => sign_is (HD.out.keep q) HSG.out)
  go_wp2_with fail
  (with_reducible refine (TC.out _ ?_).mono ?_); (repeat (first | exact Below.refl _ _ | exact hBw | refine Below.drew ?_ | refine below_drewN ?_ _ | refine bset ?_ (by simp <;> omega) _ | refine bal ?_ _))
  rintro e w13 ⟨rfl, hb13⟩
  have hk : Below w20.heap.size w20 w13 := bthen (by repeat (first | exact Below.refl _ _ | exact hBw | refine Below.drew ?_ | refine below_drewN ?_ _ | refine bset ?_ (by simp <;> omega) _ | refine bal ?_ _)) hb13
  have x0 : w13.cell? ⟨w2.heap.size, 0, none⟩ = some (.slice xa xn xc) := bkc hb13
  have zx0 := cell_lt x0
  have d0 : w13.cell? ⟨w6.heap.size, 0, none⟩ = some (.bool nd) := bkc hb13
  have zd0 := cell_lt d0
  have d1 : w13.cell? ⟨w6.heap.size, 1, none⟩ = some (.slice da dl dc) := bkc hb13
  have p0 : w13.cell? ⟨w8.heap.size, 0, none⟩ = some (.slice pa xn pc) := bkc hb13
  have zp0 := cell_lt p0
  have p0f : w13.frozen? ⟨w8.heap.size, 0, none⟩ = false := bkcf (v := .slice pa xn pc) hb13
  have q0 : w13.cell? ⟨w9.heap.size, 0, none⟩ = some (.slice qa xn qc) := bkc hb13
  have zq0 := cell_lt q0
  have q0f : w13.frozen? ⟨w9.heap.size, 0, none⟩ = false := bkcf (v := .slice qa xn qc) hb13
  have v0 : w13.cell? ⟨w12.heap.size, 0, none⟩ = some (.slice va' xn vc') := bkc hb13
  have zv0 := cell_lt v0
  have k0 : w13.cell? ⟨w12.heap.size + 1, 0, none⟩ = some (.bool kn) := bkc hb13
  have zk0 := cell_lt k0
  have k1 : w13.cell? ⟨w12.heap.size + 1, 1, none⟩ = some (.slice ka kl kc) := bkc hb13
  have hB : Below w.heap.size w w13 := bthen (by repeat (first | exact Below.refl _ _ | exact hB | refine Below.drew ?_ | refine below_drewN ?_ _ | refine bset ?_ (by simp <;> omega) _ | refine bal ?_ _)) hb13
  have hz : w.heap.size ≤ w13.heap.size := hB.size
  clear TC hBw hb13
  have hBw := Below.refl w13.heap.size w13
  replace MX := Lib.hid (MX.out.keep hk)
  replace MW := Lib.hid (MW.out.keep hk)
  replace HK := Lib.hid (HK.out.keep hk)
  replace HTP := Lib.hid (typ_keep HTP.out hk)
  replace HTQ := Lib.hid (typ_keep HTQ.out hk)
  clear hk HD d0 d1
  go_upto_region 17 with (fail)
  refine wp_name fun w21 hW21 => ?_
  have x0 : w21.cell? ⟨w2.heap.size, 0, none⟩ = some (.slice xa xn xc) := by rw [hW21]; exact (by first | assumption | exact cell_new (by with_reducible first | rfl | (simp; done) | (simp; omega)) rfl | (repeat (first | assumption | exact cell_new (by with_reducible first | rfl | (simp; done) | (simp; omega)) rfl | refine cell_alloc ?_ _ | refine cell_drew ?_ | refine cell_drewN ?_ _ | refine cell_far ?_ (by simp) _ | (refine cell_far ?_ (by simp <;> omega) _))) | simp [go_sem, *])
  have zx0 := cell_lt x0
  have p0f : w21.frozen? ⟨w8.heap.size, 0, none⟩ = false := by rw [hW21]; simp [go_sem, *]
  have p0 : w21.cell? ⟨w8.heap.size, 0, none⟩ = some (.slice pa xn pc) := by rw [hW21]; exact (by first | assumption | exact cell_new (by with_reducible first | rfl | (simp; done) | (simp; omega)) rfl | (repeat (first | assumption | exact cell_new (by with_reducible first | rfl | (simp; done) | (simp; omega)) rfl | refine cell_alloc ?_ _ | refine cell_drew ?_ | refine cell_drewN ?_ _ | refine cell_far ?_ (by simp) _ | (refine cell_far ?_ (by simp <;> omega) _))) | simp [go_sem, *])
  have zp0 := cell_lt p0
  have q0f : w21.frozen? ⟨w9.heap.size, 0, none⟩ = false := by rw [hW21]; simp [go_sem, *]
  have q0 : w21.cell? ⟨w9.heap.size, 0, none⟩ = some (.slice qa xn qc) := by rw [hW21]; exact (by first | assumption | exact cell_new (by with_reducible first | rfl | (simp; done) | (simp; omega)) rfl | (repeat (first | assumption | exact cell_new (by with_reducible first | rfl | (simp; done) | (simp; omega)) rfl | refine cell_alloc ?_ _ | refine cell_drew ?_ | refine cell_drewN ?_ _ | refine cell_far ?_ (by simp) _ | (refine cell_far ?_ (by simp <;> omega) _))) | simp [go_sem, *])
  have zq0 := cell_lt q0
  have v0 : w21.cell? ⟨w12.heap.size, 0, none⟩ = some (.slice va' xn vc') := by rw [hW21]; exact (by first | assumption | exact cell_new (by with_reducible first | rfl | (simp; done) | (simp; omega)) rfl | (repeat (first | assumption | exact cell_new (by with_reducible first | rfl | (simp; done) | (simp; omega)) rfl | refine cell_alloc ?_ _ | refine cell_drew ?_ | refine cell_drewN ?_ _ | refine cell_far ?_ (by simp) _ | (refine cell_far ?_ (by simp <;> omega) _))) | simp [go_sem, *])
  have zv0 := cell_lt v0
  have k0 : w21.cell? ⟨w12.heap.size + 1, 0, none⟩ = some (.bool kn) := by rw [hW21]; exact (by first | assumption | exact cell_new (by with_reducible first | rfl | (simp; done) | (simp; omega)) rfl | (repeat (first | assumption | exact cell_new (by with_reducible first | rfl | (simp; done) | (simp; omega)) rfl | refine cell_alloc ?_ _ | refine cell_drew ?_ | refine cell_drewN ?_ _ | refine cell_far ?_ (by simp) _ | (refine cell_far ?_ (by simp <;> omega) _))) | simp [go_sem, *])
  have zk0 := cell_lt k0
  have k1 : w21.cell? ⟨w12.heap.size + 1, 1, none⟩ = some (.slice ka kl kc) := by rw [hW21]; exact (by first | assumption | exact cell_new (by with_reducible first | rfl | (simp; done) | (simp; omega)) rfl | (repeat (first | assumption | exact cell_new (by with_reducible first | rfl | (simp; done) | (simp; omega)) rfl | refine cell_alloc ?_ _ | refine cell_drew ?_ | refine cell_drewN ?_ _ | refine cell_far ?_ (by simp) _ | (refine cell_far ?_ (by simp <;> omega) _))) | simp [go_sem, *])
  have hB : Below w.heap.size w w21 := by rw [hW21]; repeat (first | exact Below.refl _ _ | exact hB | refine Below.drew ?_ | refine below_drewN ?_ _ | refine bset ?_ (by simp <;> omega) _ | refine bal ?_ _)
  have hk : Below w13.heap.size w13 w21 := by rw [hW21]; repeat (first | exact Below.refl _ _ | exact hBw | refine Below.drew ?_ | refine below_drewN ?_ _ | refine bset ?_ (by simp <;> omega) _ | refine bal ?_ _)
  have hz : w.heap.size ≤ w21.heap.size := hB.size
  clear hW21
  replace MX := Lib.hid (MX.out.keep hk)
  replace MW := Lib.hid (MW.out.keep hk)
  replace HK := Lib.hid (HK.out.keep hk)
  replace HTP := Lib.hid (typ_keep HTP.out hk)
  replace HTQ := Lib.hid (typ_keep HTQ.out hk)
  clear hk hBw hsI
  have hBw := Below.refl w21.heap.size w21
  have TC := Lib.hid (fun V (q : Below w21.heap.size w21 V) => sign_is (HK.out.keep q) (Int.sign_eq_one_of_pos (invD_pos (by rw [HDD.out]; exact HD0.out))))
  go_wp2_with fail
  (with_reducible refine (TC.out _ ?_).mono ?_); (repeat (first | exact Below.refl _ _ | exact hBw | refine Below.drew ?_ | refine below_drewN ?_ _ | refine bset ?_ (by simp <;> omega) _ | refine bal ?_ _))
  rintro e w14 ⟨rfl, hb14⟩
  have hk : Below w21.heap.size w21 w14 := bthen (by repeat (first | exact Below.refl _ _ | exact hBw | refine Below.drew ?_ | refine below_drewN ?_ _ | refine bset ?_ (by simp <;> omega) _ | refine bal ?_ _)) hb14
  have x0 : w14.cell? ⟨w2.heap.size, 0, none⟩ = some (.slice xa xn xc) := bkc hb14
  have zx0 := cell_lt x0
  have p0 : w14.cell? ⟨w8.heap.size, 0, none⟩ = some (.slice pa xn pc) := bkc hb14
  have zp0 := cell_lt p0
  have p0f : w14.frozen? ⟨w8.heap.size, 0, none⟩ = false := bkcf (v := .slice pa xn pc) hb14
  have q0 : w14.cell? ⟨w9.heap.size, 0, none⟩ = some (.slice qa xn qc) := bkc hb14
  have zq0 := cell_lt q0
  have q0f : w14.frozen? ⟨w9.heap.size, 0, none⟩ = false := bkcf (v := .slice qa xn qc) hb14
  have v0 : w14.cell? ⟨w12.heap.size, 0, none⟩ = some (.slice va' xn vc') := bkc hb14
  have zv0 := cell_lt v0
  have k0 : w14.cell? ⟨w12.heap.size + 1, 0, none⟩ = some (.bool kn) := bkc hb14
  have zk0 := cell_lt k0
  have k1 : w14.cell? ⟨w12.heap.size + 1, 1, none⟩ = some (.slice ka kl kc) := bkc hb14
  have hB : Below w.heap.size w w14 := bthen (by repeat (first | exact Below.refl _ _ | exact hB | refine Below.drew ?_ | refine below_drewN ?_ _ | refine bset ?_ (by simp <;> omega) _ | refine bal ?_ _)) hb14
  have hz : w.heap.size ≤ w14.heap.size := hB.size
  clear TC hBw hb14
  have hBw := Below.refl w14.heap.size w14
  replace MX := Lib.hid (MX.out.keep hk)
  replace MW := Lib.hid (MW.out.keep hk)
  replace HK := Lib.hid (HK.out.keep hk)
  replace HTP := Lib.hid (typ_keep HTP.out hk)
  replace HTQ := Lib.hid (typ_keep HTQ.out hk)
  clear hk
  have HID0 := Lib.hid (show Det.detE gx.length (gat gx) ≠ 0 from by rw [HDD.out]; exact HD0.out)
  have HKB := Lib.hid ((invD_bd (K := 64) (by decide) MX.out.bd HID0.out).mono (kb_mono 64 MX.out.sz.2.2.1))
  have TC := Lib.hid (fun V (q : Below w14.heap.size w14 V) => Mt.times (n := xn) (MX.out.keep q) (MW.out.keep q) (by rw [inv_len]; exact ESQ.out.symm) (by decide) HXN.out.symm)
  go_wp2_with fail
  (with_reducible refine (TC.out _ ?_).mono ?_); (repeat (first | exact Below.refl _ _ | exact hBw | refine Below.drew ?_ | refine below_drewN ?_ _ | refine bset ?_ (by simp <;> omega) _ | refine bal ?_ _))
  rintro e w15 ⟨⟨pa2, pc2, rfl, hm⟩, hb15⟩
  have hk : Below w14.heap.size w14 w15 := bthen (by repeat (first | exact Below.refl _ _ | exact hBw | refine Below.drew ?_ | refine below_drewN ?_ _ | refine bset ?_ (by simp <;> omega) _ | refine bal ?_ _)) hb15
  have x0 : w15.cell? ⟨w2.heap.size, 0, none⟩ = some (.slice xa xn xc) := bkc hb15
  have zx0 := cell_lt x0
  have p0 : w15.cell? ⟨w8.heap.size, 0, none⟩ = some (.slice pa xn pc) := bkc hb15
  have zp0 := cell_lt p0
  have p0f : w15.frozen? ⟨w8.heap.size, 0, none⟩ = false := bkcf (v := .slice pa xn pc) hb15
  have q0 : w15.cell? ⟨w9.heap.size, 0, none⟩ = some (.slice qa xn qc) := bkc hb15
  have zq0 := cell_lt q0
  have q0f : w15.frozen? ⟨w9.heap.size, 0, none⟩ = false := bkcf (v := .slice qa xn qc) hb15
  have v0 : w15.cell? ⟨w12.heap.size, 0, none⟩ = some (.slice va' xn vc') := bkc hb15
  have zv0 := cell_lt v0
  have k0 : w15.cell? ⟨w12.heap.size + 1, 0, none⟩ = some (.bool kn) := bkc hb15
  have zk0 := cell_lt k0
  have k1 : w15.cell? ⟨w12.heap.size + 1, 1, none⟩ = some (.slice ka kl kc) := bkc hb15
  have hB : Below w.heap.size w w15 := bthen (by repeat (first | exact Below.refl _ _ | exact hB | refine Below.drew ?_ | refine below_drewN ?_ _ | refine bset ?_ (by simp <;> omega) _ | refine bal ?_ _)) hb15
  have hz : w.heap.size ≤ w15.heap.size := hB.size
  clear TC hBw hb15
  have hBw := Below.refl w15.heap.size w15
  have MP := Lib.hid hm
  clear hm
  replace MX := Lib.hid (MX.out.keep hk)
  replace MW := Lib.hid (MW.out.keep hk)
  replace HK := Lib.hid (HK.out.keep hk)
  replace HTP := Lib.hid (typ_keep HTP.out hk)
  replace HTQ := Lib.hid (typ_keep HTQ.out hk)
  clear hk HD0 HSG hBw
  go_upto_region 20 with (fail)
  have p00 := Lib.hid p0
  refine wp_name fun w22 hW22 => ?_
  have x0 : w22.cell? ⟨w2.heap.size, 0, none⟩ = some (.slice xa xn xc) := by rw [hW22]; exact cell_far x0 (addr_ne (Nat.ne_of_gt L28.out)) _
  have zx0 := cell_lt x0
  have q0f : w22.frozen? ⟨w9.heap.size, 0, none⟩ = false := by rw [hW22, World.frozen?_setCell]; exact q0f
  have q0 : w22.cell? ⟨w9.heap.size, 0, none⟩ = some (.slice qa xn qc) := by rw [hW22]; exact cell_far q0 (addr_ne (Nat.ne_of_lt L89.out)) _
  have zq0 := cell_lt q0
  have v0 : w22.cell? ⟨w12.heap.size, 0, none⟩ = some (.slice va' xn vc') := by rw [hW22]; exact cell_far v0 (addr_ne (Nat.ne_of_lt L812.out)) _
  have zv0 := cell_lt v0
  have k0 : w22.cell? ⟨w12.heap.size + 1, 0, none⟩ = some (.bool kn) := by rw [hW22]; exact cell_far k0 (addr_ne (Nat.ne_of_lt (Nat.lt_succ_of_lt L812.out))) _
  have zk0 := cell_lt k0
  have k1 : w22.cell? ⟨w12.heap.size + 1, 1, none⟩ = some (.slice ka kl kc) := by rw [hW22]; exact cell_far k1 (addr_ne (Nat.ne_of_lt (Nat.lt_succ_of_lt L812.out))) _
  have p0f : w22.frozen? ⟨w8.heap.size, 0, none⟩ = false := by rw [hW22, World.frozen?_setCell]; exact p0f
  have p0 : w22.cell? ⟨w8.heap.size, 0, none⟩ = some (.slice pa2 xn pc2) := by rw [hW22]; exact cell_here p0 _
  have zp0 := cell_lt p0
  have hB : Below w.heap.size w w22 := by rw [hW22]; exact bset hB L08.out _
  have hz : w.heap.size ≤ w22.heap.size := hB.size
  replace MX := Lib.hid (show Mt 64 gx (.agg #[.slice xa xn xc]) w22 from by rw [hW22]; exact MX.out.setM HTP.out _)
  replace MW := Lib.hid (show Mt (kb 64 16) (invG gx) (.agg #[.slice va' xn vc']) w22 from by rw [hW22]; exact MW.out.setM HTP.out _)
  replace MP := Lib.hid (show Mt _ (timesG gx (invG gx)) (.agg #[.slice pa2 xn pc2]) w22 from by rw [hW22]; exact MP.out.setM HTP.out _)
  replace HK := Lib.hid (show IsInt w22 (.agg #[.bool kn, .slice ka kl kc]) (invD gx) from by rw [hW22]; exact HK.out.lim ((Lim.refl _).slice p00.out _))
  replace HTQ := Lib.hid (show typOf w22 w9.heap.size = some 27 from by rw [hW22, typ_set]; exact HTQ.out)
  clear hW22 p00
  clear HTP
  have hBw := Below.refl w22.heap.size w22
  have TC := Lib.hid (fun V (q : Below w22.heap.size w22 V) => Mt.times (n := xn) (MW.out.keep q) (MX.out.keep q) (by rw [inv_cols MX.out.sz.1]) (by decide) (by rw [inv_len]; exact HXN.out.symm))
  go_wp2_with fail
  (with_reducible refine (TC.out _ ?_).mono ?_); (repeat (first | exact Below.refl _ _ | exact hBw | refine Below.drew ?_ | refine below_drewN ?_ _ | refine bset ?_ (by simp <;> omega) _ | refine bal ?_ _))
  rintro e w23 ⟨⟨qa2, qc2, rfl, hm⟩, hb23⟩
  have hk : Below w22.heap.size w22 w23 := bthen (by repeat (first | exact Below.refl _ _ | exact hBw | refine Below.drew ?_ | refine below_drewN ?_ _ | refine bset ?_ (by simp <;> omega) _ | refine bal ?_ _)) hb23
  have x0 : w23.cell? ⟨w2.heap.size, 0, none⟩ = some (.slice xa xn xc) := bkc hb23
  have zx0 := cell_lt x0
  have p0 : w23.cell? ⟨w8.heap.size, 0, none⟩ = some (.slice pa2 xn pc2) := bkc hb23
  have zp0 := cell_lt p0
  have p0f : w23.frozen? ⟨w8.heap.size, 0, none⟩ = false := bkcf (v := .slice pa2 xn pc2) hb23
  have q0 : w23.cell? ⟨w9.heap.size, 0, none⟩ = some (.slice qa xn qc) := bkc hb23
  have zq0 := cell_lt q0
  have q0f : w23.frozen? ⟨w9.heap.size, 0, none⟩ = false := bkcf (v := .slice qa xn qc) hb23
  have v0 : w23.cell? ⟨w12.heap.size, 0, none⟩ = some (.slice va' xn vc') := bkc hb23
  have zv0 := cell_lt v0
  have k0 : w23.cell? ⟨w12.heap.size + 1, 0, none⟩ = some (.bool kn) := bkc hb23
  have zk0 := cell_lt k0
  have k1 : w23.cell? ⟨w12.heap.size + 1, 1, none⟩ = some (.slice ka kl kc) := bkc hb23
  have hB : Below w.heap.size w w23 := bthen (by repeat (first | exact Below.refl _ _ | exact hB | refine Below.drew ?_ | refine below_drewN ?_ _ | refine bset ?_ (by simp <;> omega) _ | refine bal ?_ _)) hb23
  have hz : w.heap.size ≤ w23.heap.size := hB.size
  clear TC hBw hb23
  have hBw := Below.refl w23.heap.size w23
  have MQ := Lib.hid hm
  clear hm
  replace MX := Lib.hid (MX.out.keep hk)
  replace MW := Lib.hid (MW.out.keep hk)
  replace MP := Lib.hid (MP.out.keep hk)
  replace HK := Lib.hid (HK.out.keep hk)
  replace HTQ := Lib.hid (typ_keep HTQ.out hk)
  clear hk hBw
  go_upto_region 21 with (fail)
  have q00 := Lib.hid q0
  refine wp_name fun w24 hW24 => ?_
  have x0 : w24.cell? ⟨w2.heap.size, 0, none⟩ = some (.slice xa xn xc) := by rw [hW24]; exact cell_far x0 (addr_ne (Nat.ne_of_gt L29.out)) _
  have zx0 := cell_lt x0
  have p0 : w24.cell? ⟨w8.heap.size, 0, none⟩ = some (.slice pa2 xn pc2) := by rw [hW24]; exact cell_far p0 (addr_ne (Nat.ne_of_gt L89.out)) _
  have zp0 := cell_lt p0
  have v0 : w24.cell? ⟨w12.heap.size, 0, none⟩ = some (.slice va' xn vc') := by rw [hW24]; exact cell_far v0 (addr_ne (Nat.ne_of_lt L912.out)) _
  have zv0 := cell_lt v0
  have k0 : w24.cell? ⟨w12.heap.size + 1, 0, none⟩ = some (.bool kn) := by rw [hW24]; exact cell_far k0 (addr_ne (Nat.ne_of_lt (Nat.lt_succ_of_lt L912.out))) _
  have zk0 := cell_lt k0
  have k1 : w24.cell? ⟨w12.heap.size + 1, 1, none⟩ = some (.slice ka kl kc) := by rw [hW24]; exact cell_far k1 (addr_ne (Nat.ne_of_lt (Nat.lt_succ_of_lt L912.out))) _
  have q0f : w24.frozen? ⟨w9.heap.size, 0, none⟩ = false := by rw [hW24, World.frozen?_setCell]; exact q0f
  have q0 : w24.cell? ⟨w9.heap.size, 0, none⟩ = some (.slice qa2 xn qc2) := by rw [hW24]; exact cell_here q0 _
  have zq0 := cell_lt q0
  have hB : Below w.heap.size w w24 := by rw [hW24]; exact bset hB L09.out _
  have hz : w.heap.size ≤ w24.heap.size := hB.size
  replace MX := Lib.hid (show Mt 64 gx (.agg #[.slice xa xn xc]) w24 from by rw [hW24]; exact MX.out.setM HTQ.out _)
  replace MW := Lib.hid (show Mt (kb 64 16) (invG gx) (.agg #[.slice va' xn vc']) w24 from by rw [hW24]; exact MW.out.setM HTQ.out _)
  replace MP := Lib.hid (show Mt _ (timesG gx (invG gx)) (.agg #[.slice pa2 xn pc2]) w24 from by rw [hW24]; exact MP.out.setM HTQ.out _)
  replace MQ := Lib.hid (show Mt _ (timesG (invG gx) gx) (.agg #[.slice qa2 xn qc2]) w24 from by rw [hW24]; exact MQ.out.setM HTQ.out _)
  replace HK := Lib.hid (show IsInt w24 (.agg #[.bool kn, .slice ka kl kc]) (invD gx) from by rw [hW24]; exact HK.out.lim ((Lim.refl _).slice q00.out _))
  clear hW24 q00
  clear HTQ
  have HB24 := Lib.hid hB
  have HF := Lib.hid (show ∀ V, Below w24.heap.size w24 V → V.cell? ⟨w2.heap.size, 0, none⟩ = some (.slice xa xn xc) ∧ V.cell? ⟨w8.heap.size, 0, none⟩ = some (.slice pa2 xn pc2) ∧ V.cell? ⟨w9.heap.size, 0, none⟩ = some (.slice qa2 xn qc2) ∧ V.cell? ⟨w12.heap.size, 0, none⟩ = some (.slice va' xn vc') ∧ V.cell? ⟨w12.heap.size + 1, 0, none⟩ = some (.bool kn) ∧ V.cell? ⟨w12.heap.size + 1, 1, none⟩ = some (.slice ka kl kc) from fun V q => ⟨bkeep q x0, bkeep q p0, bkeep q q0, bkeep q v0, bkeep q k0, bkeep q k1⟩)
  have hBw := Below.refl w24.heap.size w24
  go_upto_region 22 with (fail)
  refine wp_name fun w25 hW25 => ?_
  have hk25 : Below w24.heap.size w24 w25 := by rw [hW25]; repeat (first | exact Below.refl _ _ | exact hBw | refine Below.drew ?_ | refine below_drewN ?_ _ | refine bset ?_ (by simp <;> omega) _ | refine bal ?_ _)
  have VC := Lib.hid (show VarI w24.heap.size (invD gx) w25 from by rw [hW25]; exact ⟨typ_fresh rfl, kn, ka, kl, kc, by simp [go_sem], by simp [go_sem], by simp [go_sem], by simp [go_sem], HK.out.keep (bal (Below.refl _ _) _)⟩)
  clear hW25 x0 p0 q0 v0 k0 k1 hBw
  obtain ⟨x0, p0, q0, v0, k0, k1⟩ := HF.out w25 hk25
  have zx0 := cell_lt x0
  have zv0 := cell_lt v0
  have RW := Lib.hid (fun V => rowsM_c va' xn vc' V)
  have hBw := Below.refl w25.heap.size w25
  go_wp2_with fail
  (with_reducible refine (RW.out _).mono ?_)
  rintro e w26 ⟨rfl, hb26⟩
  have hk26 : Below w25.heap.size w25 w26 := bthen (by repeat (first | exact Below.refl _ _ | exact hBw | refine Below.drew ?_ | refine below_drewN ?_ _ | refine bset ?_ (by simp <;> omega) _ | refine bal ?_ _)) hb26
  have hB26 := bthen hk25 hk26
  replace VC := Lib.hid (VC.out.keep hk26)
  clear hk25 hk26 hb26 hBw RW x0 p0 q0 v0 k0 k1 zx0 zv0
  have hn16 : xn ≤ 16 := by rw [HXN.out]; exact MX.out.sz.2.2.1
  go_wp2
  go_loopw [118] (fun x wr => ∃ i : Nat, i ≤ xn ∧ x = .int .i64 i ∧ Below w24.heap.size w24 wr ∧ Hid (VarI w24.heap.size (allG (invD gx) ((invG gx).take i)) wr)) (fun x _ => xn - (intOf x).toNat)
  case atStart => exact ⟨0, Nat.zero_le _, rfl, by first | exact hB26 | exact hB26.drew, by first | exact VC | exact Lib.hid (VC.out.keep (Below.refl _ _).drew)⟩
  case round =>
    obtain ⟨i, hi, rfl, hBr, hV⟩ := hrel
    by_cases hlt : i < xn
    · have hltI : (i : Int) < (xn : Int) := by omega
      have HLT := Lib.hid hlt
      obtain ⟨-, -, -, v0, -, -⟩ := HF.out wr hBr
      have zv0 := cell_lt v0
      have hil : i < (invG gx).length := by rw [inv_len, ← HXN.out]; exact hlt
      have HIL := Lib.hid hil
      have RC := Lib.hid (fun W (q : Below wr.heap.size wr W) => rowM_c (.agg #[.slice va' xn vc']) (invG gx) i W (MW.out.m.keep (bthen hBr q)) HIL.out (Nat.le_trans MW.out.sz.2.2.1 (by decide)) (by rw [MW.out.rc i HIL.out]; exact Nat.le_trans MW.out.sz.2.2.2 (by decide)))
      have hBx := Below.refl wr.heap.size wr
      clear hlt hil
      go_wp2_with fail
      (with_reducible refine (RC.out _ ?_).mono ?_); (repeat (first | exact Below.refl _ _ | exact hBx | refine Below.drew ?_ | refine below_drewN ?_ _ | refine bset ?_ (by simp <;> omega) _ | refine bal ?_ _))
      rintro e w27 ⟨⟨rv, rfl, hrv⟩, hb27⟩
      have hk27 : Below wr.heap.size wr w27 := bthen (by repeat (first | exact Below.refl _ _ | exact hBx | refine Below.drew ?_ | refine below_drewN ?_ _ | refine bset ?_ (by simp <;> omega) _ | refine bal ?_ _)) hb27
      have hrv2 := hrv.rebase (show wr.heap.size ≤ _ from (show Below wr.heap.size wr _ by repeat (first | exact Below.refl _ _ | exact hBx | refine Below.drew ?_ | refine below_drewN ?_ _ | refine bset ?_ (by simp <;> omega) _ | refine bal ?_ _)).size)
      have hrl : ((invG gx).getD i []).length = xn := by rw [MW.out.rc i HIL.out, inv_cols MX.out.sz.1, HXN.out]
      have HCT := Lib.hid (allG_take (c := invD gx) HIL.out)
      have hcb := allG_step HKB.out MW.out.bd i
      have hrb : ∀ j, Bd (kb 64 16) (((invG gx).getD i []).getD j 0) := fun j => MW.out.bd i j
      obtain ⟨ra, rc, rfl, -, -, hvw⟩ := (hrv2.ownF hk27).view
      obtain ⟨row, hrow⟩ : ∃ r, (invG gx).getD i [] = r := ⟨_, rfl⟩
      rw [hrow] at hrl HCT hrb hvw ⊢
      rw [hrl] at hvw ⊢
      obtain ⟨c0, hc0⟩ : ∃ c, allG (invD gx) ((invG gx).take i) = c := ⟨_, rfl⟩
      rw [hc0] at hV HCT hcb
      have HEND := Lib.hid (show (row.take xn).foldl gcdI c0 = allG (invD gx) ((invG gx).take (i + 1)) from by rw [HCT.out, List.take_of_length_le (by omega)])
      have HRL := Lib.hid hrl
      have HCB := Lib.hid (foldG_step hcb hrb)
      have HRB := Lib.hid hrb
      have hvl := typ_lt hV.out.1
      have VC27 := Lib.hid (hV.out.keep hk27)
      have hB27 := bthen hBr hk27
      rcases hvw with h0 | ⟨rb, rfl, hrbl, hF⟩
      · have := HLT.out; omega
      have hnr : ¬ rb = w24.heap.size := by omega
      have HI := Lib.hid hF
      have HNR := Lib.hid hnr
      clear hrow hrl hrb hc0 hcb HCT hrv hrv2 hF hvl hnr hrbl hb27 hk27 hBx RC v0 zv0 hV hBr
      go_wp2
      go_loopw [131] (fun x wq => ∃ j : Nat, j ≤ xn ∧ x = .int .i64 j ∧ Out (fun q => q = w24.heap.size) w27 wq ∧ Hid (Lim w27 wq) ∧ Hid (VarI w24.heap.size ((row.take j).foldl gcdI c0) wq)) (fun x _ => xn - (intOf x).toNat)
      case atStart => exact ⟨0, Nat.zero_le _, rfl, Out.refl _ _, Lib.hid (Lim.refl _), VC27⟩
      case round =>
        obtain ⟨j, hj, rfl, hO, hL, hVq⟩ := hrel
        rename World => wq
        by_cases hjt : j < xn
        · have hltJ : (j : Int) < (xn : Int) := by omega
          have HJT := Lib.hid hjt
          obtain ⟨en, ea, el, ec, d0, d1, hx⟩ := (HI.out.out lims_int hO HNR.out hL.out).at0 hjt
          obtain ⟨-, cn, ca', cl', cc', m0, m1, m0f, m1f, mI⟩ := hVq.out
          have HST := Lib.hid (foldG_take (c := c0) (show j < row.length by rw [HRL.out]; exact hjt))
          have bc := HCB.out j
          have bx := HRB.out j
          obtain ⟨x, hxE⟩ : ∃ x, row.getD j 0 = x := ⟨_, rfl⟩
          obtain ⟨cur, hcur⟩ : ∃ z, (row.take j).foldl gcdI c0 = z := ⟨_, rfl⟩
          rw [hxE] at hx HST bx
          rw [hcur] at hVq mI HST bc
          have GC := Lib.hid (fun W (q : Below wq.heap.size wq W) => gcdI_c (.agg #[.bool cn, .slice ca' cl' cc']) (.agg #[.bool en, .slice ea el ec]) cur x (kb 64 16) W (mI.keep q) (hx.keep q) bc bx (by decide))
          have zm := cell_lt m0
          have zd := cell_lt d0
          have HCE := Lib.hid (And.intro m0 (And.intro m1 (And.intro m0f m1f)))
          have hBw := Below.refl wq.heap.size wq
          clear hx mI bc bx hxE hcur hjt
          go_wp2_with fail
          (with_reducible refine (GC.out _ ?_).mono ?_); (repeat (first | exact Below.refl _ _ | exact hBw | refine Below.drew ?_ | refine below_drewN ?_ _ | refine bset ?_ (by simp <;> omega) _ | refine bal ?_ _))
          rintro e w28 ⟨⟨u, rfl, hu⟩, hb28⟩
          have hk28 : Below wq.heap.size wq w28 := bthen (by repeat (first | exact Below.refl _ _ | exact hBw | refine Below.drew ?_ | refine below_drewN ?_ _ | refine bset ?_ (by simp <;> omega) _ | refine bal ?_ _)) hb28
          have HU := Lib.hid hu
          obtain ⟨un, ua, ul, uc, rfl⟩ := hu.lit
          clear m0 m1 m0f m1f d0 d1 hu hb28 GC zm zd hBw
          have m0 := bkeep hk28 HCE.out.1
          have m1 := bkeep hk28 HCE.out.2.1
          have m0f := bkeepf hk28 HCE.out.1 HCE.out.2.2.1
          have m1f := bkeepf hk28 HCE.out.2.1 HCE.out.2.2.2
          have zm := cell_lt m0
          have HV2 := Lib.hid ((hVq.out.keep hk28).put HU.out)
          rw [← HST.out] at HV2
          have HL2 := Lib.hid ((hL.out.below hk28).trans (Lim.set2 m0 m1 (.bool un) (.slice ua ul uc)))
          have hO2 : Out (fun q => q = w24.heap.size) w27 ((w28.setCell ⟨w24.heap.size, 0, none⟩ (.bool un)).setCell ⟨w24.heap.size, 1, none⟩ (.slice ua ul uc)) := (hO.below hk28).set2 (fun _ => rfl) _ _
          have hlJ := HJT.out
          clear hO hL hVq HST HU HCE hk28
          go_wp2
          exact ⟨⟨j + 1, hlJ, by go_num, hO2, HL2, HV2⟩, meas hlJ (by go_num) rfl⟩
        · obtain rfl : xn = j := by omega
          have hltJ : ¬ (xn : Int) < (xn : Int) := by omega
          have hBe : Below w24.heap.size w24 wq := hB27.trans (hO.to_below (fun k hk _ e => by have e2 : k = w24.heap.size := e; omega) hB27.size)
          have VE := Lib.hid hVq.out
          rw [HEND.out] at VE
          have hlI := HLT.out
          clear hO hL hVq HI HB24
          go_wp2
          exact ⟨⟨i + 1, hlI, by go_num, hBe, VE⟩, meas hlI (by go_num) rfl⟩
    · obtain rfl : xn = i := by omega
      have hltI : ¬ (xn : Int) < (xn : Int) := by omega
      obtain ⟨-, cn, ca', cl', cc', c0, c1, -, -, cI⟩ := hV.out
      rw [show (invG gx).take xn = invG gx from List.take_of_length_le (by rw [inv_len, ← HXN.out]; exact Nat.le_refl _), inv_common HID0.out] at cI
      have HC1 := Lib.hid cI
      obtain ⟨x0, p0, q0, v0, k0, k1⟩ := HF.out wr hBr
      have UP := Lib.hid (fun V (q : Below wr.heap.size wr V) => unit_c (MP.out.keep (bthen hBr q)) (HK.out.keep (bthen hBr q)) HKB.out (by decide) (by rw [times_len]; exact mul_invG ESQ.out MX.out.sz.1 HID0.out))
      have UQ := Lib.hid (fun V (q : Below wr.heap.size wr V) => unit_c (MQ.out.keep (bthen hBr q)) (HK.out.keep (bthen hBr q)) HKB.out (by decide) (by rw [times_len, inv_len]; exact inv_mulG ESQ.out MX.out.sz.1 HID0.out))
      have OC := Lib.hid (fun W => of_c 1 W (by decide) (by decide))
      have zc0 := cell_lt c0
      have zp0 := cell_lt p0
      have zq0 := cell_lt q0
      have zk0 := cell_lt k0
      have HS := Lib.hid (show ∀ V, Below wr.heap.size wr V → V.cell? ⟨w8.heap.size, 0, none⟩ = some (.slice pa2 xn pc2) ∧ V.cell? ⟨w9.heap.size, 0, none⟩ = some (.slice qa2 xn qc2) ∧ V.cell? ⟨w12.heap.size + 1, 0, none⟩ = some (.bool kn) ∧ V.cell? ⟨w12.heap.size + 1, 1, none⟩ = some (.slice ka kl kc) ∧ V.cell? ⟨w24.heap.size, 0, none⟩ = some (.bool cn) ∧ V.cell? ⟨w24.heap.size, 1, none⟩ = some (.slice ca' cl' cc') from fun V q => ⟨bkeep q p0, bkeep q q0, bkeep q k0, bkeep q k1, bkeep q c0, bkeep q c1⟩)
      have HBR := Lib.hid hBr
      have hBw := Below.refl wr.heap.size wr
      clear cI hV hBr x0 v0
      go_wp2
      go_region_held3 (fun V => V.cell? ⟨w8.heap.size, 0, none⟩ = some (.slice pa2 xn pc2) ∧ V.cell? ⟨w9.heap.size, 0, none⟩ = some (.slice qa2 xn qc2) ∧ V.cell? ⟨w12.heap.size + 1, 0, none⟩ = some (.bool kn) ∧ V.cell? ⟨w12.heap.size + 1, 1, none⟩ = some (.slice ka kl kc) ∧ V.cell? ⟨w24.heap.size, 0, none⟩ = some (.bool cn) ∧ V.cell? ⟨w24.heap.size, 1, none⟩ = some (.slice ca' cl' cc'))
        (first | (refine HS.out _ ?_; (repeat (first | exact Below.refl _ _ | exact hBw | refine Below.drew ?_ | refine below_drewN ?_ _ | refine bset ?_ (by simp <;> omega) _ | refine bal ?_ _)); done) | fail)
        (first
        | (go_at_call 62; (with_reducible refine (UP.out _ ?_).mono ?_); (repeat (first | exact Below.refl _ _ | exact hBw | refine Below.drew ?_ | refine below_drewN ?_ _ | refine bset ?_ (by simp <;> omega) _ | refine bal ?_ _)); rintro e w30 ⟨rfl, hb30⟩; (have hBd : Below wr.heap.size wr w30 := bthen (by repeat (first | exact Below.refl _ _ | exact hBw | refine Below.drew ?_ | refine below_drewN ?_ _ | refine bset ?_ (by simp <;> omega) _ | refine bal ?_ _)) hb30; clear hBw; have hBw := hBd; clear hBd))
        | (go_at_call 62; (with_reducible refine (UQ.out _ ?_).mono ?_); (repeat (first | exact Below.refl _ _ | exact hBw | refine Below.drew ?_ | refine below_drewN ?_ _ | refine bset ?_ (by simp <;> omega) _ | refine bal ?_ _)); rintro e w31 ⟨rfl, hb31⟩; (have hBd : Below wr.heap.size wr w31 := bthen (by repeat (first | exact Below.refl _ _ | exact hBw | refine Below.drew ?_ | refine below_drewN ?_ _ | refine bset ?_ (by simp <;> omega) _ | refine bal ?_ _)) hb31; clear hBw; have hBw := hBd; clear hBd))
        | (go_at_call 25; (with_reducible refine (OC.out _).mono ?_); rintro e w32 ⟨⟨ov, rfl, hov⟩, hb32⟩; (have hBd : Below wr.heap.size wr w32 := bthen (by repeat (first | exact Below.refl _ _ | exact hBw | refine Below.drew ?_ | refine below_drewN ?_ _ | refine bset ?_ (by simp <;> omega) _ | refine bal ?_ _)) hb32; clear hBw; have hBw := hBd; clear hBd); have HO := Lib.hid hov; have HC32 := Lib.hid (HC1.out.keep hBw); have hy32 := Below.refl w32.heap.size w32; obtain ⟨on, oa, ol, oc, rfl⟩ := hov.lit; clear hov)
        | (go_at_call 64; (with_reducible refine (cmp_same (HC32.out.keep ?_) (HO.out.keep ?_)).mono ?_); (repeat (first | exact Below.refl _ _ | exact hy32 | refine Below.drew ?_ | refine below_drewN ?_ _ | refine bset ?_ (by simp <;> omega) _ | refine bal ?_ _)); (repeat (first | exact Below.refl _ _ | exact hy32 | refine Below.drew ?_ | refine below_drewN ?_ _ | refine bset ?_ (by simp <;> omega) _ | refine bal ?_ _)); rintro e w33 ⟨rfl, hb33⟩; (have hBd : Below wr.heap.size wr w33 := bthen (by repeat (first | exact Below.refl _ _ | exact hBw | refine Below.drew ?_ | refine below_drewN ?_ _ | refine bset ?_ (by simp <;> omega) _ | refine bal ?_ _)) hb33; clear hBw; have hBw := hBd; clear hBd))
        | fail)
      all_goals
        have hBe := bthen HBR.out hBw
        obtain ⟨x0, -, -, -, -, -⟩ := HF.out w33 hBe
        have zx0 := cell_lt x0
        have HBE := Lib.hid hBe
        have RW := Lib.hid (fun V => rowsM_c xa xn xc V)
        have SV := Lib.hid (fun (hl : b.length = xn) V (q : Below w33.heap.size w33 V) => solved_c (n := xn) (MX.out.keep (bthen HBE.out q)) ESQ.out HID0.out (HVB.out.keep (bthen HB24.out (bthen HBE.out q))) (by rw [hl]; exact HXN.out) HXN.out.symm)
        clear UP UQ OC HS hBe hBw
        have hBw := Below.refl w33.heap.size w33
        by_cases hbl : b.length = xn
        · have hI : ((xn : Int) != (xn : Int)) = false := by simp
          replace SV := Lib.hid (SV.out hbl)
          rw [hbl] at SV ⊢
          clear hbl
          go_wp2_with fail
          (with_reducible refine (RW.out _).mono ?_)
          rintro e w34 ⟨rfl, hb34⟩
          have hk34 : Below w33.heap.size w33 w34 := bthen (by repeat (first | exact Below.refl _ _ | exact hBw | refine Below.drew ?_ | refine below_drewN ?_ _ | refine bset ?_ (by simp <;> omega) _ | refine bal ?_ _)) hb34
          replace x0 := bkeep hk34 x0
          replace zx0 := cell_lt x0
          clear hb34 hBw
          go_wp2_with fail
          (with_reducible refine (SV.out _ ?_).mono ?_); (repeat (first | exact Below.refl _ _ | exact hk34 | refine Below.drew ?_ | refine below_drewN ?_ _ | refine bset ?_ (by simp <;> omega) _ | refine bal ?_ _))
          rintro e w35 ⟨rfl, hb35⟩
          have hk35 : Below w33.heap.size w33 w35 := bthen (by repeat (first | exact Below.refl _ _ | exact hk34 | refine Below.drew ?_ | refine below_drewN ?_ _ | refine bset ?_ (by simp <;> omega) _ | refine bal ?_ _)) hb35
          have hBf := bthen HB24.out (bthen HBE.out hk35)
          go_wp2
          go_ret
          exact ⟨rfl, by repeat (first | exact Below.refl _ _ | exact hBf | refine Below.drew ?_ | refine below_drewN ?_ _ | refine bset ?_ (by simp <;> omega) _ | refine bal ?_ _)⟩
        · have hI : ((b.length : Int) != (xn : Int)) = true := by simp; omega
          go_wp2_with fail
          (with_reducible refine (RW.out _).mono ?_)
          rintro e w34 ⟨rfl, hb34⟩
          have hk34 : Below w33.heap.size w33 w34 := bthen (by repeat (first | exact Below.refl _ _ | exact hBw | refine Below.drew ?_ | refine below_drewN ?_ _ | refine bset ?_ (by simp <;> omega) _ | refine bal ?_ _)) hb34
          have hBf := bthen HB24.out (bthen HBE.out hk34)
          go_wp2
          go_ret
          exact ⟨rfl, by repeat (first | exact Below.refl _ _ | exact hBf | refine Below.drew ?_ | refine below_drewN ?_ _ | refine bset ?_ (by simp <;> omega) _ | refine bal ?_ _)⟩
theorem matrixInverse_u (va : Value) (a : Grid) (vb : Value) (b : List Int) (w : World) (ha : GridI w va a ∧ sumG a ≤ 1048576 ∧ a.length ≤ 1048576) (hb : RowI w vb b ∧ b.length ≤ 1048576) :
    Calls Tryz.prog 7 #[va, vb] w fun e w' => e = .returned (.bool true) ∧ Below w.heap.size w w' :=
  matrixInverse_h va vb a b w ha.1 hb.1 ha.2.2 (fun k hk => Nat.le_trans (sumG_le hk) ha.2.1) hb.2
end Go.Proofs.YthaohpfbengabaaGreatDoor

