/- Texts of this seat, laid together: MiB, RaA, RaB, RaC, RaD, Qp, MkA, MwD, MkE, DnP, FrB, FrC. Each opens with its own remark, which says what it proves, and under which conditions. -/
import Derived.Test.YtbmaffijncapiaaGreatDoorL17
import Derived.Test.YtbmaffijncapiaaGreatDoorL15
import Derived.Test.YtbmaffijncapiaaGreatDoorL11
import Derived.Test.YtbmaffijncapiaaGreatDoorL06
import Derived.Deep.DeepCutAuto
import Derived.Test.YtbmaffijncapiaaGreatDoorL03
import Derived.Test.YtbmaffijncapiaaGreatDoorL04
import Derived.Test.YtbmaffijncapiaaGreatDoorL10
set_option linter.unusedVariables false
set_option linter.unusedSimpArgs false
/- matrices, plain: the adjugate, the inverse, what divides all its numbers. -/
namespace Go.Proofs.YtbmaffijncapiaaGreatDoor
open Num
set_option linter.unusedVariables false
set_option linter.unusedSimpArgs false
theorem gcd_dvdR (x y : Int) : gcdI x y ∣ y := Int.gcd_dvd_right (a := x) (b := y)
section
variable {g : Grid} {n : Nat}
end
end Go.Proofs.YtbmaffijncapiaaGreatDoor

/- ratio: lowest, Make, Num, Den. -/
namespace Go.Proofs.YtbmaffijncapiaaGreatDoor
open Num
open Go.ChangeShapes Go.WideShapes Go.ChangeAt Go.RowKit
set_option linter.unusedVariables false
set_option linter.unusedSimpArgs false
attribute [local go_sem ↓] Go.wp_at_zero Go.wp_at_succ
def IsRat (w : World) (v : Value) (n d : Int) : Prop := ∃ n1 a1 l1 c1 n2 a2 l2 c2, v = .agg #[.bool n1, .slice a1 l1 c1, .bool n2, .slice a2 l2 c2] ∧ IsInt w (.agg #[.bool n1, .slice a1 l1 c1]) n ∧ IsInt w (.agg #[.bool n2, .slice a2 l2 c2]) (d - 1)
theorem IsRat.keep {w w' : World} {v : Value} {n d : Int} (h : IsRat w v n d) (k : Below w.heap.size w w') : IsRat w' v n d := by
  obtain ⟨n1, a1, l1, c1, n2, a2, l2, c2, e, h1, h2⟩ := h
  exact ⟨n1, a1, l1, c1, n2, a2, l2, c2, e, h1.keep k, h2.keep k⟩
theorem IsInt.lit {w : World} {v : Value} {z : Int} (h : IsInt w v z) : ∃ n a l c, v = .agg #[.bool n, .slice a l c] := by
  obtain ⟨n, a, c, l, rfl, -⟩ := h
  exact ⟨n, a, l.length, c, rfl⟩
theorem bd_one {k : Nat} {d : Int} (h : Bd k d) (h0 : d ≠ 0) : Bd k 1 := by unfold Bd at *; have : (1 : Int).natAbs = 1 := rfl; omega
theorem bd_quot {k : Nat} {d G : Int} (h : Bd k d) (hd : G ∣ d) (h0 : G ≠ 0) : Bd k (d / G) := by
  obtain ⟨q, rfl⟩ := hd
  rw [Int.mul_ediv_cancel_left _ h0]
  unfold Bd at *
  rw [Int.natAbs_mul] at h
  have h1 : 1 ≤ G.natAbs := by omega
  have h2 := Nat.mul_le_mul_right q.natAbs h1
  omega
theorem IsInt.put4 {w : World} {x : Value} {z : Int} {g : Nat} {b b' : Bool} {a a' : Option Addr} {n c n' c' : Nat} (h : IsInt w x z) (r0 : w.cell? ⟨g, 0, none⟩ = some (.bool b)) (r1 : w.cell? ⟨g, 1, none⟩ = some (.slice a n c)) (r2 : w.cell? ⟨g, 2, none⟩ = some (.bool b')) (r3 : w.cell? ⟨g, 3, none⟩ = some (.slice a' n' c')) (u0 u1 u2 u3 : Value) : IsInt ((((w.setCell ⟨g, 0, none⟩ u0).setCell ⟨g, 1, none⟩ u1).setCell ⟨g, 2, none⟩ u2).setCell ⟨g, 3, none⟩ u3) x z :=
  (((h.put r0 (fun _ e => by cases e) u0).put (cell_far r1 (by simp) u0) (fun _ e => by cases e) u1).put (cell_far (cell_far r2 (by simp) u0) (by simp) u1) (fun _ e => by cases e) u2).put (cell_far (cell_far (cell_far r3 (by simp) u0) (by simp) u1) (by simp) u2) (fun _ e => by cases e) u3
section
variable {w : World} {g b i : Nat} {u v x : Value}
theorem put2_keep (h : w.cell? ⟨b, i, none⟩ = some x) (hne : b ≠ g) : ((w.setCell ⟨g, 0, none⟩ u).setCell ⟨g, 1, none⟩ v).cell? ⟨b, i, none⟩ = some x :=
  cell_far (cell_far h (fun e => hne (congrArg Addr.block e).symm) _) (fun e => hne (congrArg Addr.block e).symm) _
theorem put2_0 (h : w.cell? ⟨g, 0, none⟩ = some x) : ((w.setCell ⟨g, 0, none⟩ u).setCell ⟨g, 1, none⟩ v).cell? ⟨g, 0, none⟩ = some u := cell_far (cell_here h u) (by simp) v
theorem put2_1 (h : w.cell? ⟨g, 1, none⟩ = some x) : ((w.setCell ⟨g, 0, none⟩ u).setCell ⟨g, 1, none⟩ v).cell? ⟨g, 1, none⟩ = some v := cell_here (cell_far h (by simp) u) v
theorem put2_f {a : Addr} (h : w.frozen? a = false) : ((w.setCell ⟨g, 0, none⟩ u).setCell ⟨g, 1, none⟩ v).frozen? a = false := by rw [World.frozen?_setCell, World.frozen?_setCell]; exact h
end
set_option maxRecDepth 100000 in
set_option maxHeartbeats 8000000 in
theorem lowest_c (vn vd : Value) (n d : Int) (k : Nat) (w : World) (hn : IsInt w vn n) (hd : IsInt w vd d) (bn : Bd k n) (bd : Bd k d) (hk : k ≤ 17179869180) (h0 : d ≠ 0) :
    Calls Tryz.prog 126 #[vn, vd] w fun e w' => (∃ v, e = .returned v ∧ IsRat w' v (n / gcdI n d) (d / gcdI n d)) ∧ Below w.heap.size w w' := by
  have HN := Lib.hid hn
  have HD := Lib.hid hd
  have GC := Lib.hid (fun W (q : Below w.heap.size w W) => gcdI_c vn vd n d k W (hn.keep q) (hd.keep q) bn bd (by omega))
  obtain ⟨nn, na, nl, nc, rfl⟩ := hn.lit
  obtain ⟨dn, da, dl, dc, rfl⟩ := hd.lit
  have hG0 : gcdI n d ≠ 0 := fun e => h0 (by
    have := gcd_dvdR n d
    rw [e] at this
    exact Int.zero_dvd.1 this)
  have bG : Bd k (gcdI n d) := gcdI_bd bn bd
  obtain ⟨G, hG⟩ : ∃ G, gcdI n d = G := ⟨_, rfl⟩
  rw [hG] at GC hG0 bG ⊢
  have HBD := Lib.hid (And.intro bn (And.intro bd (And.intro bG hG0)))
  have HB1 := Lib.hid (bd_one bd h0)
  have HBV := Lib.hid (bd_quot bd (show G ∣ d by rw [← hG]; exact gcd_dvdR n d) hG0)
  clear hG hn hd bn bd bG hG0 h0
  have hB := Below.refl w.heap.size w
  go_enter Tryz.func126, Tryz.ntmps126
  go_wp2_with fail
  (with_reducible refine (GC.out _ ?_).mono ?_); (repeat (first|exact bzR _ _|exact hB|refine bzD ?_|refine bzN ?_|refine bzS ?_|refine bzA ?_))
  rintro e w1 ⟨⟨g, rfl, hg⟩, hb1⟩
  have n0 : w1.cell? ⟨w.heap.size, 0, none⟩ = some (.bool nn) := bkc hb1
  have zn0 := cell_lt n0
  have n0f : w1.frozen? ⟨w.heap.size, 0, none⟩ = false := bkcf (v := .bool nn) hb1
  have n1 : w1.cell? ⟨w.heap.size, 1, none⟩ = some (.slice na nl nc) := bkc hb1
  have n1f : w1.frozen? ⟨w.heap.size, 1, none⟩ = false := bkcf (v := .slice na nl nc) hb1
  have d0 : w1.cell? ⟨w.heap.size + 1, 0, none⟩ = some (.bool dn) := bkc hb1
  have zd0 := cell_lt d0
  have d0f : w1.frozen? ⟨w.heap.size + 1, 0, none⟩ = false := bkcf (v := .bool dn) hb1
  have d1 : w1.cell? ⟨w.heap.size + 1, 1, none⟩ = some (.slice da dl dc) := bkc hb1
  have d1f : w1.frozen? ⟨w.heap.size + 1, 1, none⟩ = false := bkcf (v := .slice da dl dc) hb1
  have r0 : w1.cell? ⟨w.heap.size + 1 + 1, 0, none⟩ = some (.bool false) := bkc hb1
  have zr0 := cell_lt r0
  have r0f : w1.frozen? ⟨w.heap.size + 1 + 1, 0, none⟩ = false := bkcf (v := .bool false) hb1
  have r1 : w1.cell? ⟨w.heap.size + 1 + 1, 1, none⟩ = some (.slice none 0 0) := bkc hb1
  have r1f : w1.frozen? ⟨w.heap.size + 1 + 1, 1, none⟩ = false := bkcf (v := .slice none 0 0) hb1
  have r2 : w1.cell? ⟨w.heap.size + 1 + 1, 2, none⟩ = some (.bool false) := bkc hb1
  have r2f : w1.frozen? ⟨w.heap.size + 1 + 1, 2, none⟩ = false := bkcf (v := .bool false) hb1
  have r3 : w1.cell? ⟨w.heap.size + 1 + 1, 3, none⟩ = some (.slice none 0 0) := bkc hb1
  have r3f : w1.frozen? ⟨w.heap.size + 1 + 1, 3, none⟩ = false := bkcf (v := .slice none 0 0) hb1
  have hB : Below w.heap.size w w1 := bthen (by repeat (first|exact bzR _ _|exact hB|refine bzD ?_|refine bzN ?_|refine bzS ?_|refine bzA ?_)) hb1
  have hz : w.heap.size ≤ w1.heap.size := hB.size
  have ZZ := Lib.hid (show w.heap.size + 1 + 1 < w1.heap.size from cell_lt r0)
  have HG := Lib.hid hg
  have HN1 := Lib.hid (HN.out.keep hB)
  have HD1 := Lib.hid (HD.out.keep hB)
  obtain ⟨gn, ga, gl, gc, rfl⟩ := hg.lit
  clear GC hg HN HD
  have hBw := Below.refl w1.heap.size w1
  have D1 := Lib.hid (fun W (q : Below w1.heap.size w1 W) => divmod_c _ _ n G k W (HN1.out.keep q) (HG.out.keep q) HBD.out.1 HBD.out.2.2.1 (by omega) HBD.out.2.2.2)
  go_wp2_with fail
  (with_reducible refine (D1.out _ ?_).mono ?_); (repeat (first|exact bzR _ _|exact hBw|refine bzD ?_|refine bzN ?_|refine bzS ?_|refine bzA ?_))
  rintro e w2 ⟨⟨u, u', rfl, hu, hu'⟩, hb2⟩
  have hk : Below w1.heap.size w1 w2 := bthen (by repeat (first|exact bzR _ _|exact hBw|refine bzD ?_|refine bzN ?_|refine bzS ?_|refine bzA ?_)) hb2
  have n0 : w2.cell? ⟨w.heap.size, 0, none⟩ = some (.bool nn) := bkc hb2
  have zn0 := cell_lt n0
  have n0f : w2.frozen? ⟨w.heap.size, 0, none⟩ = false := bkcf (v := .bool nn) hb2
  have n1 : w2.cell? ⟨w.heap.size, 1, none⟩ = some (.slice na nl nc) := bkc hb2
  have n1f : w2.frozen? ⟨w.heap.size, 1, none⟩ = false := bkcf (v := .slice na nl nc) hb2
  have d0 : w2.cell? ⟨w.heap.size + 1, 0, none⟩ = some (.bool dn) := bkc hb2
  have zd0 := cell_lt d0
  have d0f : w2.frozen? ⟨w.heap.size + 1, 0, none⟩ = false := bkcf (v := .bool dn) hb2
  have d1 : w2.cell? ⟨w.heap.size + 1, 1, none⟩ = some (.slice da dl dc) := bkc hb2
  have d1f : w2.frozen? ⟨w.heap.size + 1, 1, none⟩ = false := bkcf (v := .slice da dl dc) hb2
  have r0 : w2.cell? ⟨w.heap.size + 1 + 1, 0, none⟩ = some (.bool false) := bkc hb2
  have zr0 := cell_lt r0
  have r0f : w2.frozen? ⟨w.heap.size + 1 + 1, 0, none⟩ = false := bkcf (v := .bool false) hb2
  have r1 : w2.cell? ⟨w.heap.size + 1 + 1, 1, none⟩ = some (.slice none 0 0) := bkc hb2
  have r1f : w2.frozen? ⟨w.heap.size + 1 + 1, 1, none⟩ = false := bkcf (v := .slice none 0 0) hb2
  have r2 : w2.cell? ⟨w.heap.size + 1 + 1, 2, none⟩ = some (.bool false) := bkc hb2
  have r2f : w2.frozen? ⟨w.heap.size + 1 + 1, 2, none⟩ = false := bkcf (v := .bool false) hb2
  have r3 : w2.cell? ⟨w.heap.size + 1 + 1, 3, none⟩ = some (.slice none 0 0) := bkc hb2
  have r3f : w2.frozen? ⟨w.heap.size + 1 + 1, 3, none⟩ = false := bkcf (v := .slice none 0 0) hb2
  have g0 : w2.cell? ⟨w1.heap.size, 0, none⟩ = some (.bool gn) := bkc hb2
  have zg0 := cell_lt g0
  have g1 : w2.cell? ⟨w1.heap.size, 1, none⟩ = some (.slice ga gl gc) := bkc hb2
  have hB : Below w.heap.size w w2 := bthen (by repeat (first|exact bzR _ _|exact hB|refine bzD ?_|refine bzN ?_|refine bzS ?_|refine bzA ?_)) hb2
  have hz : w.heap.size ≤ w2.heap.size := hB.size
  have HU := Lib.hid hu
  have HD2 := Lib.hid (HD1.out.keep hk)
  have HG2 := Lib.hid (HG.out.keep hk)
  obtain ⟨un, ua, ul, uc, rfl⟩ := hu.lit
  obtain ⟨vn', va', vl', vc', rfl⟩ := hu'.lit
  clear D1 hu hu' HN1 HD1 HG hBw hk hb1 hb2
  go_upto_region 3 with (fail)
  have hzz : w.heap.size + 1 + 1 < w1.heap.size := ZZ.out
  have HU3 := Lib.hid (HU.out.put2 n0 n1 (.bool un) (.slice ua ul uc))
  have HD3 := Lib.hid (HD2.out.put2 n0 n1 (.bool un) (.slice ua ul uc))
  have HG3 := Lib.hid (HG2.out.put2 n0 n1 (.bool un) (.slice ua ul uc))
  refine wp_name fun w3 hW3 => ?_
  rw [← hW3] at HU3 HD3 HG3
  have hB : Below w.heap.size w w3 := by rw [hW3]; exact bset (bset hB (by show w.heap.size ≤ w.heap.size; omega) _) (by show w.heap.size ≤ w.heap.size; omega) _
  have n0q : w3.cell? ⟨w.heap.size, 0, none⟩ = some (.bool un) := by rw [hW3]; exact put2_0 n0
  have n0qf : w3.frozen? ⟨w.heap.size, 0, none⟩ = false := by rw [hW3]; exact put2_f n0f
  have n1q : w3.cell? ⟨w.heap.size, 1, none⟩ = some (.slice ua ul uc) := by rw [hW3]; exact put2_1 n1
  have n1qf : w3.frozen? ⟨w.heap.size, 1, none⟩ = false := by rw [hW3]; exact put2_f n1f
  have d0q := put2_keep (u := .bool un) (v := .slice ua ul uc) d0 (show _ ≠ w.heap.size by omega)
  rw [← hW3] at d0q
  have d0qf := put2_f (g := w.heap.size) (u := .bool un) (v := .slice ua ul uc) d0f
  rw [← hW3] at d0qf
  have d1q := put2_keep (u := .bool un) (v := .slice ua ul uc) d1 (show _ ≠ w.heap.size by omega)
  rw [← hW3] at d1q
  have d1qf := put2_f (g := w.heap.size) (u := .bool un) (v := .slice ua ul uc) d1f
  rw [← hW3] at d1qf
  have r0q := put2_keep (u := .bool un) (v := .slice ua ul uc) r0 (show _ ≠ w.heap.size by omega)
  rw [← hW3] at r0q
  have r0qf := put2_f (g := w.heap.size) (u := .bool un) (v := .slice ua ul uc) r0f
  rw [← hW3] at r0qf
  have r1q := put2_keep (u := .bool un) (v := .slice ua ul uc) r1 (show _ ≠ w.heap.size by omega)
  rw [← hW3] at r1q
  have r1qf := put2_f (g := w.heap.size) (u := .bool un) (v := .slice ua ul uc) r1f
  rw [← hW3] at r1qf
  have r2q := put2_keep (u := .bool un) (v := .slice ua ul uc) r2 (show _ ≠ w.heap.size by omega)
  rw [← hW3] at r2q
  have r2qf := put2_f (g := w.heap.size) (u := .bool un) (v := .slice ua ul uc) r2f
  rw [← hW3] at r2qf
  have r3q := put2_keep (u := .bool un) (v := .slice ua ul uc) r3 (show _ ≠ w.heap.size by omega)
  rw [← hW3] at r3q
  have r3qf := put2_f (g := w.heap.size) (u := .bool un) (v := .slice ua ul uc) r3f
  rw [← hW3] at r3qf
  have g0q := put2_keep (u := .bool un) (v := .slice ua ul uc) g0 (show _ ≠ w.heap.size by omega)
  rw [← hW3] at g0q
  have g1q := put2_keep (u := .bool un) (v := .slice ua ul uc) g1 (show _ ≠ w.heap.size by omega)
  rw [← hW3] at g1q
  clear hW3 n0 n1 d0 d1 r0 r1 r2 r3 g0 g1 n0f n1f d0f d1f r0f r1f r2f r3f
  have n0 := n0q
  have n1 := n1q
  have d0 := d0q
  have d1 := d1q
  have r0 := r0q
  have r1 := r1q
  have r2 := r2q
  have r3 := r3q
  have g0 := g0q
  have g1 := g1q
  have n0f := n0qf
  have n1f := n1qf
  have d0f := d0qf
  have d1f := d1qf
  have r0f := r0qf
  have r1f := r1qf
  have r2f := r2qf
  have r3f := r3qf
  clear n0q n1q d0q d1q r0q r1q r2q r3q g0q g1q n0qf n1qf d0qf d1qf r0qf r1qf r2qf r3qf
  have zn0 := cell_lt n0
  have zd0 := cell_lt d0
  have zr0 := cell_lt r0
  have zg0 := cell_lt g0
  clear HU HD2 HG2
  have hBw := Below.refl w3.heap.size w3
  have D2 := Lib.hid (fun W (q : Below w3.heap.size w3 W) => divmod_c _ _ d G k W (HD3.out.keep q) (HG3.out.keep q) HBD.out.2.1 HBD.out.2.2.1 (by omega) HBD.out.2.2.2)
  go_wp2_with fail
  (with_reducible refine (D2.out _ ?_).mono ?_); (repeat (first|exact bzR _ _|exact hBw|refine bzD ?_|refine bzN ?_|refine bzS ?_|refine bzA ?_))
  rintro e w4 ⟨⟨v, v', rfl, hv, hv'⟩, hb4⟩
  have hk : Below w3.heap.size w3 w4 := bthen (by repeat (first|exact bzR _ _|exact hBw|refine bzD ?_|refine bzN ?_|refine bzS ?_|refine bzA ?_)) hb4
  have n0 : w4.cell? ⟨w.heap.size, 0, none⟩ = some (.bool un) := bkc hb4
  have zn0 := cell_lt n0
  have n0f : w4.frozen? ⟨w.heap.size, 0, none⟩ = false := bkcf (v := .bool un) hb4
  have n1 : w4.cell? ⟨w.heap.size, 1, none⟩ = some (.slice ua ul uc) := bkc hb4
  have n1f : w4.frozen? ⟨w.heap.size, 1, none⟩ = false := bkcf (v := .slice ua ul uc) hb4
  have d0 : w4.cell? ⟨w.heap.size + 1, 0, none⟩ = some (.bool dn) := bkc hb4
  have zd0 := cell_lt d0
  have d0f : w4.frozen? ⟨w.heap.size + 1, 0, none⟩ = false := bkcf (v := .bool dn) hb4
  have d1 : w4.cell? ⟨w.heap.size + 1, 1, none⟩ = some (.slice da dl dc) := bkc hb4
  have d1f : w4.frozen? ⟨w.heap.size + 1, 1, none⟩ = false := bkcf (v := .slice da dl dc) hb4
  have r0 : w4.cell? ⟨w.heap.size + 1 + 1, 0, none⟩ = some (.bool false) := bkc hb4
  have zr0 := cell_lt r0
  have r0f : w4.frozen? ⟨w.heap.size + 1 + 1, 0, none⟩ = false := bkcf (v := .bool false) hb4
  have r1 : w4.cell? ⟨w.heap.size + 1 + 1, 1, none⟩ = some (.slice none 0 0) := bkc hb4
  have r1f : w4.frozen? ⟨w.heap.size + 1 + 1, 1, none⟩ = false := bkcf (v := .slice none 0 0) hb4
  have r2 : w4.cell? ⟨w.heap.size + 1 + 1, 2, none⟩ = some (.bool false) := bkc hb4
  have r2f : w4.frozen? ⟨w.heap.size + 1 + 1, 2, none⟩ = false := bkcf (v := .bool false) hb4
  have r3 : w4.cell? ⟨w.heap.size + 1 + 1, 3, none⟩ = some (.slice none 0 0) := bkc hb4
  have r3f : w4.frozen? ⟨w.heap.size + 1 + 1, 3, none⟩ = false := bkcf (v := .slice none 0 0) hb4
  have hB : Below w.heap.size w w4 := bthen (by repeat (first|exact bzR _ _|exact hB|refine bzD ?_|refine bzN ?_|refine bzS ?_|refine bzA ?_)) hb4
  have hz : w.heap.size ≤ w4.heap.size := hB.size
  have HV := Lib.hid hv
  have HU4 := Lib.hid (HU3.out.keep hk)
  obtain ⟨vn, va, vl, vc, rfl⟩ := hv.lit
  obtain ⟨xn', xa', xl', xc', rfl⟩ := hv'.lit
  clear D2 hv hv' HU3 HD3 HG3 hBw hk hb4
  go_upto_region 4 with (fail)
  have HU5 := Lib.hid (HU4.out.put2 d0 d1 (.bool vn) (.slice va vl vc))
  have HV5 := Lib.hid (HV.out.put2 d0 d1 (.bool vn) (.slice va vl vc))
  refine wp_name fun w5 hW5 => ?_
  rw [← hW5] at HU5 HV5
  have hB : Below w.heap.size w w5 := by rw [hW5]; exact bset (bset hB (by show w.heap.size ≤ w.heap.size + 1; omega) _) (by show w.heap.size ≤ w.heap.size + 1; omega) _
  have d0q : w5.cell? ⟨w.heap.size + 1, 0, none⟩ = some (.bool vn) := by rw [hW5]; exact put2_0 d0
  have d0qf : w5.frozen? ⟨w.heap.size + 1, 0, none⟩ = false := by rw [hW5]; exact put2_f d0f
  have d1q : w5.cell? ⟨w.heap.size + 1, 1, none⟩ = some (.slice va vl vc) := by rw [hW5]; exact put2_1 d1
  have d1qf : w5.frozen? ⟨w.heap.size + 1, 1, none⟩ = false := by rw [hW5]; exact put2_f d1f
  have n0q := put2_keep (u := .bool vn) (v := .slice va vl vc) n0 (show _ ≠ w.heap.size + 1 by omega)
  rw [← hW5] at n0q
  have n0qf := put2_f (g := w.heap.size + 1) (u := .bool vn) (v := .slice va vl vc) n0f
  rw [← hW5] at n0qf
  have n1q := put2_keep (u := .bool vn) (v := .slice va vl vc) n1 (show _ ≠ w.heap.size + 1 by omega)
  rw [← hW5] at n1q
  have n1qf := put2_f (g := w.heap.size + 1) (u := .bool vn) (v := .slice va vl vc) n1f
  rw [← hW5] at n1qf
  have r0q := put2_keep (u := .bool vn) (v := .slice va vl vc) r0 (show _ ≠ w.heap.size + 1 by omega)
  rw [← hW5] at r0q
  have r0qf := put2_f (g := w.heap.size + 1) (u := .bool vn) (v := .slice va vl vc) r0f
  rw [← hW5] at r0qf
  have r1q := put2_keep (u := .bool vn) (v := .slice va vl vc) r1 (show _ ≠ w.heap.size + 1 by omega)
  rw [← hW5] at r1q
  have r1qf := put2_f (g := w.heap.size + 1) (u := .bool vn) (v := .slice va vl vc) r1f
  rw [← hW5] at r1qf
  have r2q := put2_keep (u := .bool vn) (v := .slice va vl vc) r2 (show _ ≠ w.heap.size + 1 by omega)
  rw [← hW5] at r2q
  have r2qf := put2_f (g := w.heap.size + 1) (u := .bool vn) (v := .slice va vl vc) r2f
  rw [← hW5] at r2qf
  have r3q := put2_keep (u := .bool vn) (v := .slice va vl vc) r3 (show _ ≠ w.heap.size + 1 by omega)
  rw [← hW5] at r3q
  have r3qf := put2_f (g := w.heap.size + 1) (u := .bool vn) (v := .slice va vl vc) r3f
  rw [← hW5] at r3qf
  clear hW5 d0 d1 n0 n1 r0 r1 r2 r3 n0f n1f d0f d1f r0f r1f r2f r3f
  have d0 := d0q
  have d1 := d1q
  have n0 := n0q
  have n1 := n1q
  have r0 := r0q
  have r1 := r1q
  have r2 := r2q
  have r3 := r3q
  have n0f := n0qf
  have n1f := n1qf
  have d0f := d0qf
  have d1f := d1qf
  have r0f := r0qf
  have r1f := r1qf
  have r2f := r2qf
  have r3f := r3qf
  clear d0q d1q n0q n1q r0q r1q r2q r3q n0qf n1qf d0qf d1qf r0qf r1qf r2qf r3qf
  have zn0 := cell_lt n0
  have zd0 := cell_lt d0
  have zr0 := cell_lt r0
  clear HU4 HV
  have hBw := Below.refl w5.heap.size w5
  have OC := Lib.hid (fun W => of_c 1 W (by decide) (by decide))
  have SC := Lib.hid (fun u W (q : Below w5.heap.size w5 W) (hu : IsInt W u 1) => subI_c _ u (d / G) 1 k W (HV5.out.keep q) hu HBV.out HB1.out (by omega))
  have HB5 := Lib.hid hB
  have HCELL := Lib.hid (show ∀ V, Below w5.heap.size w5 V → (V.cell? ⟨w.heap.size, 0, none⟩ = some (.bool un) ∧ V.cell? ⟨w.heap.size, 1, none⟩ = some (.slice ua ul uc) ∧ V.cell? ⟨w.heap.size + 1, 0, none⟩ = some (.bool vn) ∧ V.cell? ⟨w.heap.size + 1, 1, none⟩ = some (.slice va vl vc)) ∧ (V.cell? ⟨w.heap.size + 1 + 1, 0, none⟩ = some (.bool false) ∧ V.cell? ⟨w.heap.size + 1 + 1, 1, none⟩ = some (.slice none 0 0) ∧ V.cell? ⟨w.heap.size + 1 + 1, 2, none⟩ = some (.bool false) ∧ V.cell? ⟨w.heap.size + 1 + 1, 3, none⟩ = some (.slice none 0 0)) ∧ (V.frozen? ⟨w.heap.size + 1 + 1, 0, none⟩ = false ∧ V.frozen? ⟨w.heap.size + 1 + 1, 1, none⟩ = false ∧ V.frozen? ⟨w.heap.size + 1 + 1, 2, none⟩ = false ∧ V.frozen? ⟨w.heap.size + 1 + 1, 3, none⟩ = false) from fun V q => ⟨⟨bkeep q n0, bkeep q n1, bkeep q d0, bkeep q d1⟩, ⟨bkeep q r0, bkeep q r1, bkeep q r2, bkeep q r3⟩, ⟨bkeepf q r0 r0f, bkeepf q r1 r1f, bkeepf q r2 r2f, bkeepf q r3 r3f⟩⟩)
  clear n0f n1f d0f d1f hzz
  go_region_law (go_simp; go_wp2_with (first
    | (go_at_call 45; refine (OC.out _).mono ?_; rintro e w6 ⟨⟨ov, rfl, hov⟩, hb6⟩; (have hBd : Below w5.heap.size w5 w6 := bthen (by repeat (first|exact bzR _ _|exact hBw|refine bzD ?_|refine bzN ?_|refine bzS ?_|refine bzA ?_)) hb6; clear hBw; have hBw := hBd; clear hBd); have HO := Lib.hid hov; have hy6 := Below.refl w6.heap.size w6; obtain ⟨⟨n0, n1, d0, d1⟩, ⟨r0, r1, r2, r3⟩, ⟨r0f, r1f, r2f, r3f⟩⟩ := HCELL.out w6 hBw; obtain ⟨n6, a6, c6, l6, rfl, -⟩ := hov; unfold iv at *)
    | (go_at_call 211; refine (SC.out _ _ ?_ (HO.out.keep ?_)).mono ?_; (repeat (first|exact bzR _ _|exact hBw|refine bzD ?_|refine bzN ?_|refine bzS ?_|refine bzA ?_)); (repeat (first|exact bzR _ _|exact hy6|refine bzD ?_|refine bzN ?_|refine bzS ?_|refine bzA ?_)); rintro e w7 ⟨⟨sv, rfl, hsv⟩, hb7⟩; (have hBd : Below w5.heap.size w5 w7 := bthen (by repeat (first|exact bzR _ _|exact hBw|refine bzD ?_|refine bzN ?_|refine bzS ?_|refine bzA ?_)) hb7; clear hBw; have hBw := hBd; clear hBd); have HSV := Lib.hid hsv; obtain ⟨⟨n0, n1, d0, d1⟩, ⟨r0, r1, r2, r3⟩, ⟨r0f, r1f, r2f, r3f⟩⟩ := HCELL.out w7 hBw; obtain ⟨sn, sa, sl, sc, rfl⟩ := hsv.lit)
    | fail))
  all_goals
    have HU7 := Lib.hid ((HU5.out.keep hBw).put4 r0 r1 r2 r3 (.bool un) (.slice ua ul uc) (.bool sn) (.slice sa sl sc))
    have HS7 := Lib.hid (HSV.out.put4 r0 r1 r2 r3 (.bool un) (.slice ua ul uc) (.bool sn) (.slice sa sl sc))
    have hBf := bthen HB5.out hBw
    go_wp2
    refine bodyPost_ret (v := .agg #[.bool un, .slice ua ul uc, .bool sn, .slice sa sl sc]) (by simp [results, Tryz.results126, go_sem, *]) rfl ⟨⟨_, rfl, _, _, _, _, _, _, _, _, rfl, ?_, ?_⟩, ?_⟩
    · first | exact HU7.out | exact HU7.out.keep (Below.refl _ _).drew
    · first | exact HS7.out | exact HS7.out.keep (Below.refl _ _).drew
    ·
      repeat (first|exact bzR _ _|exact hBf|refine bzD ?_|refine bzN ?_|refine bzS ?_|refine bzA ?_)
end Go.Proofs.YtbmaffijncapiaaGreatDoor

/- ratio: Make over a number above 0, Num, Den. -/
namespace Go.Proofs.YtbmaffijncapiaaGreatDoor
open Num
open Go.ChangeShapes Go.WideShapes Go.ChangeAt Go.RowKit
set_option linter.unusedVariables false
set_option linter.unusedSimpArgs false
attribute [local go_sem ↓] Go.wp_at_zero Go.wp_at_succ
set_option maxRecDepth 100000 in
set_option maxHeartbeats 8000000 in
theorem makePos_c (vn vd : Value) (n d : Int) (k : Nat) (w : World) (hn : IsInt w vn n) (hd : IsInt w vd d) (bn : Bd k n) (bd : Bd k d) (hk : k ≤ 17179869180) (h0 : 0 < d) :
    Calls Tryz.prog 130 #[vn, vd] w fun e w' => (∃ v, e = .returned (.tuple #[v, .int .i64 0]) ∧ IsRat w' v (n / gcdI n d) (d / gcdI n d)) ∧ Below w.heap.size w w' := by
  have SG := Lib.hid (fun W (q : Below w.heap.size w W) => (show Calls Tryz.prog 25 #[vd] W fun e w' => e = .returned (.int .i64 1) ∧ Below W.heap.size W w' from by
    have h := sign_c vd d W (hd.keep q)
    rw [Int.sign_eq_one_of_pos h0] at h
    exact h))
  have LC := Lib.hid (fun W (q : Below w.heap.size w W) => lowest_c vn vd n d k W (hn.keep q) (hd.keep q) bn bd hk (by omega))
  obtain ⟨nn, na, nl, nc, rfl⟩ := hn.lit
  obtain ⟨dn, da, dl, dc, rfl⟩ := hd.lit
  obtain ⟨N, hN⟩ : ∃ N, n / gcdI n d = N := ⟨_, rfl⟩
  obtain ⟨D, hD⟩ : ∃ D, d / gcdI n d = D := ⟨_, rfl⟩
  rw [hN, hD] at LC ⊢
  clear hN hD hn hd bn bd hk h0
  have hB := Below.refl w.heap.size w
  go_enter Tryz.func130, Tryz.ntmps130
  go_wp2_with fail
  (with_reducible refine (SG.out _ ?_).mono ?_); (repeat (first|exact bzR _ _|exact hB|refine bzD ?_|refine bzN ?_|refine bzS ?_|refine bzA ?_))
  rintro e w1 ⟨rfl, hb1⟩
  have n0 : w1.cell? ⟨w.heap.size, 0, none⟩ = some (.bool nn) := bkc hb1
  have zn0 := cell_lt n0
  have n1 : w1.cell? ⟨w.heap.size, 1, none⟩ = some (.slice na nl nc) := bkc hb1
  have d0 : w1.cell? ⟨w.heap.size + 1, 0, none⟩ = some (.bool dn) := bkc hb1
  have zd0 := cell_lt d0
  have d1 : w1.cell? ⟨w.heap.size + 1, 1, none⟩ = some (.slice da dl dc) := bkc hb1
  have r0 : w1.cell? ⟨w.heap.size + 1 + 1, 0, none⟩ = some (.bool false) := bkc hb1
  have zr0 := cell_lt r0
  have r0f : w1.frozen? ⟨w.heap.size + 1 + 1, 0, none⟩ = false := bkcf (v := .bool false) hb1
  have r1 : w1.cell? ⟨w.heap.size + 1 + 1, 1, none⟩ = some (.slice none 0 0) := bkc hb1
  have r1f : w1.frozen? ⟨w.heap.size + 1 + 1, 1, none⟩ = false := bkcf (v := .slice none 0 0) hb1
  have r2 : w1.cell? ⟨w.heap.size + 1 + 1, 2, none⟩ = some (.bool false) := bkc hb1
  have r2f : w1.frozen? ⟨w.heap.size + 1 + 1, 2, none⟩ = false := bkcf (v := .bool false) hb1
  have r3 : w1.cell? ⟨w.heap.size + 1 + 1, 3, none⟩ = some (.slice none 0 0) := bkc hb1
  have r3f : w1.frozen? ⟨w.heap.size + 1 + 1, 3, none⟩ = false := bkcf (v := .slice none 0 0) hb1
  have hB : Below w.heap.size w w1 := bthen (by repeat (first|exact bzR _ _|exact hB|refine bzD ?_|refine bzN ?_|refine bzS ?_|refine bzA ?_)) hb1
  have hz : w.heap.size ≤ w1.heap.size := hB.size
  clear SG hb1
  go_wp2_with fail
  (with_reducible refine (LC.out _ ?_).mono ?_); (repeat (first|exact bzR _ _|exact hB|refine bzD ?_|refine bzN ?_|refine bzS ?_|refine bzA ?_))
  rintro e w2 ⟨⟨v, rfl, hv⟩, hb2⟩
  have r0 : w2.cell? ⟨w.heap.size + 1 + 1, 0, none⟩ = some (.bool false) := bkc hb2
  have zr0 := cell_lt r0
  have r0f : w2.frozen? ⟨w.heap.size + 1 + 1, 0, none⟩ = false := bkcf (v := .bool false) hb2
  have r1 : w2.cell? ⟨w.heap.size + 1 + 1, 1, none⟩ = some (.slice none 0 0) := bkc hb2
  have r1f : w2.frozen? ⟨w.heap.size + 1 + 1, 1, none⟩ = false := bkcf (v := .slice none 0 0) hb2
  have r2 : w2.cell? ⟨w.heap.size + 1 + 1, 2, none⟩ = some (.bool false) := bkc hb2
  have r2f : w2.frozen? ⟨w.heap.size + 1 + 1, 2, none⟩ = false := bkcf (v := .bool false) hb2
  have r3 : w2.cell? ⟨w.heap.size + 1 + 1, 3, none⟩ = some (.slice none 0 0) := bkc hb2
  have r3f : w2.frozen? ⟨w.heap.size + 1 + 1, 3, none⟩ = false := bkcf (v := .slice none 0 0) hb2
  have hB : Below w.heap.size w w2 := bthen (by repeat (first|exact bzR _ _|exact hB|refine bzD ?_|refine bzN ?_|refine bzS ?_|refine bzA ?_)) hb2
  have hz : w.heap.size ≤ w2.heap.size := hB.size
  obtain ⟨un, ua, ul, uc, sn, sa, sl, sc, rfl, hu, hs⟩ := hv
  have HU := Lib.hid (hu.put4 r0 r1 r2 r3 (.bool un) (.slice ua ul uc) (.bool sn) (.slice sa sl sc))
  have HS := Lib.hid (hs.put4 r0 r1 r2 r3 (.bool un) (.slice ua ul uc) (.bool sn) (.slice sa sl sc))
  clear hu hs LC n0 n1 d0 d1
  go_wp2
  refine bodyPost_ret (v := .tuple #[.agg #[.bool un, .slice ua ul uc, .bool sn, .slice sa sl sc], .int .i64 0]) (by simp [results, Tryz.results130, go_sem, *]) rfl ⟨⟨_, rfl, _, _, _, _, _, _, _, _, rfl, ?_, ?_⟩, ?_⟩
  · first | exact HU.out | exact HU.out.keep (Below.refl _ _).drew
  · first | exact HS.out | exact HS.out.keep (Below.refl _ _).drew
  ·
    repeat (first|exact bzR _ _|exact hB|refine bzD ?_|refine bzN ?_|refine bzS ?_|refine bzA ?_)
set_option maxRecDepth 100000 in
set_option maxHeartbeats 8000000 in
theorem num_c (v : Value) (n d : Int) (w : World) (hv : IsRat w v n d) :
    Calls Tryz.prog 56 #[v] w fun e w' => (∃ u, e = .returned u ∧ IsInt w' u n) ∧ Below w.heap.size w w' := by
  obtain ⟨un, ua, ul, uc, sn, sa, sl, sc, rfl, hu, hs⟩ := hv
  have HU := Lib.hid hu
  clear hu hs
  have hB := Below.refl w.heap.size w
  go_enter Tryz.func56, Tryz.ntmps56
  go_wp2
  refine bodyPost_ret (v := .agg #[.bool un, .slice ua ul uc]) (by simp [results, Tryz.results56, go_sem, *]) rfl ⟨⟨_, rfl, ?_⟩, ?_⟩
  · exact HU.out.keep (by repeat (first|exact bzR _ _|exact hB|refine bzD ?_|refine bzN ?_|refine bzS ?_|refine bzA ?_))
  ·
    repeat (first|exact bzR _ _|exact hB|refine bzD ?_|refine bzN ?_|refine bzS ?_|refine bzA ?_)
end Go.Proofs.YtbmaffijncapiaaGreatDoor

/- ratio: Den. -/
namespace Go.Proofs.YtbmaffijncapiaaGreatDoor
open Num
open Go.ChangeShapes Go.WideShapes Go.ChangeAt Go.RowKit
set_option linter.unusedVariables false
set_option linter.unusedSimpArgs false
attribute [local go_sem ↓] Go.wp_at_zero Go.wp_at_succ
set_option maxRecDepth 100000 in
set_option maxHeartbeats 8000000 in
theorem den_c (v : Value) (n d : Int) (k : Nat) (w : World) (hv : IsRat w v n d) (bd : Bd k (d - 1)) (b1 : Bd k 1) (hk : k ≤ 17179869180) :
    Calls Tryz.prog 127 #[v] w fun e w' => (∃ u, e = .returned u ∧ IsInt w' u d) ∧ Below w.heap.size w w' := by
  obtain ⟨un, ua, ul, uc, sn, sa, sl, sc, rfl, hu, hs⟩ := hv
  have OC := Lib.hid (fun W => of_c 1 W (by decide) (by decide))
  have AC := Lib.hid (fun u W (q : Below w.heap.size w W) (hu : IsInt W u 1) => addI_c _ u (d - 1) 1 k W (hs.keep q) hu bd b1 (by omega))
  rw [show d - 1 + 1 = d by omega] at AC
  clear hu hs bd b1 hk
  have hB := Below.refl w.heap.size w
  go_enter Tryz.func127, Tryz.ntmps127
  go_wp2
  refine wp_name fun w5 hW5 => ?_
  have HB5 := Lib.hid (show Below w.heap.size w w5 by rw [hW5]; repeat (first|exact bzR _ _|exact hB|refine bzD ?_|refine bzN ?_|refine bzS ?_|refine bzA ?_))
  have HC5 := Lib.hid (show w5.cell? ⟨w.heap.size, 2, none⟩ = some (.bool sn) ∧ w5.cell? ⟨w.heap.size, 3, none⟩ = some (.slice sa sl sc) ∧ w5.cell? ⟨w.heap.size + 1, 0, none⟩ = some (.bool false) ∧ w5.cell? ⟨w.heap.size + 1, 1, none⟩ = some (.slice none 0 0) ∧ w5.frozen? ⟨w.heap.size + 1, 0, none⟩ = false ∧ w5.frozen? ⟨w.heap.size + 1, 1, none⟩ = false from by rw [hW5]; simp [go_sem])
  clear hW5 hB
  have HCELL := Lib.hid (show ∀ V, Below w5.heap.size w5 V → V.cell? ⟨w.heap.size, 2, none⟩ = some (.bool sn) ∧ V.cell? ⟨w.heap.size, 3, none⟩ = some (.slice sa sl sc) ∧ V.cell? ⟨w.heap.size + 1, 0, none⟩ = some (.bool false) ∧ V.cell? ⟨w.heap.size + 1, 1, none⟩ = some (.slice none 0 0) ∧ V.frozen? ⟨w.heap.size + 1, 0, none⟩ = false ∧ V.frozen? ⟨w.heap.size + 1, 1, none⟩ = false from fun V q => ⟨bkeep q HC5.out.1, bkeep q HC5.out.2.1, bkeep q HC5.out.2.2.1, bkeep q HC5.out.2.2.2.1, bkeepf q HC5.out.2.2.1 HC5.out.2.2.2.2.1, bkeepf q HC5.out.2.2.2.1 HC5.out.2.2.2.2.2⟩)
  obtain ⟨n0, n1, r0, r1, r0f, r1f⟩ := HC5.out
  have hBw := Below.refl w5.heap.size w5
  go_region_law (go_simp; go_wp2_with (first
    | (go_at_call 45; refine (OC.out _).mono ?_; rintro e w6 ⟨⟨ov, rfl, hov⟩, hb6⟩; (have hBd : Below w5.heap.size w5 w6 := bthen (by repeat (first|exact bzR _ _|exact hBw|refine bzD ?_|refine bzN ?_|refine bzS ?_|refine bzA ?_)) hb6; clear hBw; have hBw := hBd; clear hBd); have HO := Lib.hid hov; have hy6 := Below.refl w6.heap.size w6; obtain ⟨n0, n1, r0, r1, r0f, r1f⟩ := HCELL.out w6 hBw; obtain ⟨n6, a6, c6, l6, rfl, -⟩ := hov; unfold iv at *)
    | (go_at_call 37; refine (AC.out _ _ (bthen HB5.out ?_) (HO.out.keep ?_)).mono ?_; (repeat (first|exact bzR _ _|exact hBw|refine bzD ?_|refine bzN ?_|refine bzS ?_|refine bzA ?_)); (repeat (first|exact bzR _ _|exact hy6|refine bzD ?_|refine bzN ?_|refine bzS ?_|refine bzA ?_)); rintro e w7 ⟨⟨sv, rfl, hsv⟩, hb7⟩; (have hBd : Below w5.heap.size w5 w7 := bthen (by repeat (first|exact bzR _ _|exact hBw|refine bzD ?_|refine bzN ?_|refine bzS ?_|refine bzA ?_)) hb7; clear hBw; have hBw := hBd; clear hBd); have HSV := Lib.hid hsv; obtain ⟨n0, n1, r0, r1, r0f, r1f⟩ := HCELL.out w7 hBw; obtain ⟨tn, ta, tl, tc, rfl⟩ := hsv.lit)
    | fail))
  all_goals
    have HS7 := Lib.hid (HSV.out.put2 r0 r1 (.bool tn) (.slice ta tl tc))
    have hBf := bthen HB5.out hBw
    go_wp2
    refine bodyPost_ret (v := .agg #[.bool tn, .slice ta tl tc]) (by simp [results, Tryz.results127, go_sem, *]) rfl ⟨⟨_, rfl, ?_⟩, ?_⟩
    · first | exact HS7.out | exact HS7.out.keep (Below.refl _ _).drew
    ·
      repeat (first|exact bzR _ _|exact hBf|refine bzD ?_|refine bzN ?_|refine bzS ?_|refine bzA ?_)
end Go.Proofs.YtbmaffijncapiaaGreatDoor

/- ratio: rows of fractions of the call's own, built by append. -/
namespace Go.Proofs.YtbmaffijncapiaaGreatDoor
open Num
open Go.ChangeShapes Go.WideShapes Go.ChangeAt Go.RowKit
set_option linter.unusedVariables false
set_option linter.unusedSimpArgs false
theorem infoRat : (Tryz.prog.info? 79).map (fun i => (i.zero, i.size, i.bytes)) = some (some (.agg #[.bool false, .slice none 0 0, .bool false, .slice none 0 0]), 4, 64) := by kernel_rfl
theorem elRat : Elt Tryz.prog 38 79 4 64 := Elt.mk' Tryz.underlying38 infoRat rfl (by decide) (by decide)
def RatAt (w : World) (g : Nat → Option Value) (q : Int × Int) : Prop :=
  ∃ n1 a1 l1 c1 n2 a2 l2 c2, g 0 = some (.bool n1) ∧ g 1 = some (.slice a1 l1 c1) ∧ g 2 = some (.bool n2) ∧ g 3 = some (.slice a2 l2 c2) ∧ IsInt w (.agg #[.bool n1, .slice a1 l1 c1]) q.1 ∧ IsInt w (.agg #[.bool n2, .slice a2 l2 c2]) (q.2 - 1)
theorem RatAt.lim {w w' : World} {g : Nat → Option Value} {q : Int × Int} (h : RatAt w g q) (k : Lim w w') : RatAt w' g q := by
  obtain ⟨n1, a1, l1, c1, n2, a2, l2, c2, e0, e1, e2, e3, h1, h2⟩ := h
  exact ⟨n1, a1, l1, c1, n2, a2, l2, c2, e0, e1, e2, e3, h1.lim k, h2.lim k⟩
theorem RatAt.congr {w : World} {g g' : Nat → Option Value} {q : Int × Int} (h : RatAt w g q) (e : ∀ i v, i < 4 → g i = some v → g' i = some v) : RatAt w g' q := by
  obtain ⟨n1, a1, l1, c1, n2, a2, l2, c2, e0, e1, e2, e3, h1, h2⟩ := h
  exact ⟨n1, a1, l1, c1, n2, a2, l2, c2, e 0 _ (by omega) e0, e 1 _ (by omega) e1, e 2 _ (by omega) e2, e 3 _ (by omega) e3, h1, h2⟩
def OwnQ (w0 wr : World) (v : Value) (L : List (Int × Int)) : Prop :=
  ∃ xs, OwnE 79 4 w0 wr v L.length xs ∧ ∀ k (hk : k < L.length), RatAt wr (fun i => xs[k * 4 + i]?) L[k]
def IsQ (w : World) (v : Value) (L : List (Int × Int)) : Prop :=
  ∃ a c, v = .slice a L.length c ∧ (L = [] ∨ ∃ b off, a = some ⟨b, off, none⟩ ∧ ∀ k (hk : k < L.length), RatAt w (fun i => w.cell? ⟨b, off + (k * 4 + i), none⟩) L[k])
theorem lim_below {w w' : World} (k : Below w.heap.size w w') : Lim w w' := (Kp.of_below (fun _ => True) k).lim trivial
theorem OwnQ.below {w0 wr w' : World} {v : Value} {L : List (Int × Int)} (h : OwnQ w0 wr v L) (k : Below wr.heap.size wr w') : OwnQ w0 w' v L := by
  obtain ⟨xs, h1, h2⟩ := h
  exact ⟨xs, h1.below k, fun j hj => (h2 j hj).lim (lim_below k)⟩
theorem IsQ.keep {w w' : World} {v : Value} {L : List (Int × Int)} (h : IsQ w v L) (k : Below w.heap.size w w') : IsQ w' v L := by
  obtain ⟨a, c, e, h2⟩ := h
  refine ⟨a, c, e, h2.imp id ?_⟩
  rintro ⟨b, off, e2, h3⟩
  exact ⟨b, off, e2, fun j hj => ((h3 j hj).lim (lim_below k)).congr fun i v _ hv => bkeep k hv⟩
end Go.Proofs.YtbmaffijncapiaaGreatDoor

/- Fractions, in plain Lean: how core's reckon in whole numbers; their bits. -/
namespace Go.Proofs.YtbmaffijncapiaaGreatDoor
open Num
set_option linter.unusedVariables false
set_option linter.unusedSimpArgs false
theorem bd_edv {k : Nat} {x : Int} (h : Bd k x) (c : Int) : Bd k (x / c) := Nat.lt_of_le_of_lt (Int.natAbs_ediv_le_natAbs x c) h
def BdQ (k : Nat) (q : Rat) : Prop := Bd k q.num ∧ Bd k (q.den : Int)
theorem gcdI_sym (x y : Int) : gcdI x y = ((y.gcd x : Nat) : Int) := by unfold gcdI Int.gcd; rw [Nat.gcd_comm]
theorem dq_num {n d : Int} (hd : 0 < d) : (Rat.divInt n d).num = n / gcdI n d := by
  rw [Rat.num_divInt, Int.sign_eq_one_of_pos hd, Int.one_mul, gcdI_sym]
theorem dq_den {n d : Int} (hd : 0 < d) : ((Rat.divInt n d).den : Int) = d / gcdI n d := by
  rw [Rat.den_divInt, if_neg (by omega), gcdI_sym, Int.natCast_ediv, Int.natAbs_of_nonneg (by omega)]
theorem den_pos (q : Rat) : (0 : Int) < q.den := by have := q.den_pos; omega
theorem q_self (q : Rat) : Rat.divInt q.num q.den = q := Rat.num_divInt_den q
theorem q_add (x y : Rat) : x + y = Rat.divInt (x.num * y.den + y.num * x.den) (x.den * y.den) := by
  conv => lhs; rw [← q_self x, ← q_self y]
  exact Rat.divInt_add_divInt _ _ (by have := den_pos x; omega) (by have := den_pos y; omega)
theorem q_mul (x y : Rat) : x * y = Rat.divInt (x.num * y.num) (x.den * y.den) := by
  conv => lhs; rw [← q_self x, ← q_self y]
  exact Rat.divInt_mul_divInt _ _
theorem q_div (x y : Rat) : x / y = Rat.divInt (x.num * y.den) (x.den * y.num) := by
  conv => lhs; rw [Rat.div_def, ← q_self x, ← q_self y, Rat.inv_divInt]
  exact Rat.divInt_mul_divInt _ _
theorem divInt_swap {n d : Int} (hd : d < 0) : Rat.divInt n d = Rat.divInt (-n) (-d) := by
  rw [Rat.divInt_eq_div, Rat.divInt_eq_div]; rw [Rat.intCast_neg, Rat.intCast_neg]
  have : (d : Rat) ≠ 0 := fun e => by have := Rat.intCast_inj.1 (e.trans Rat.intCast_zero.symm); omega
  grind
theorem dq_bd {n d : Int} {k : Nat} (h0 : d ≠ 0) (bn : Bd k n) (bd : Bd k d) : BdQ k (Rat.divInt n d) := by
  rcases Int.lt_or_lt_of_ne h0 with h | h
  · rw [divInt_swap h]
    refine ⟨?_, ?_⟩
    · rw [dq_num (by omega)]; refine bd_edv ?_ _; unfold Bd at *; rwa [Int.natAbs_neg]
    · rw [dq_den (by omega)]; refine bd_edv ?_ _; unfold Bd at *; rwa [Int.natAbs_neg]
  · exact ⟨by rw [dq_num h]; exact bd_edv bn _, by rw [dq_den h]; exact bd_edv bd _⟩
theorem whole_num (z : Int) : ((z : Rat)).num = z ∧ ((z : Rat)).den = 1 := ⟨Rat.num_intCast z, Rat.den_intCast z⟩
theorem num_ne {y : Rat} (h : y ≠ 0) : y.num ≠ 0 := fun e => h (Rat.num_eq_zero.1 e)
theorem BdQ.mono {k m : Nat} {q : Rat} (h : BdQ k q) (hk : k ≤ m) : BdQ m q := ⟨h.1.mono hk, h.2.mono hk⟩
theorem BdQ.add {k m : Nat} {x y : Rat} (h : BdQ k x) (h' : BdQ m y) : BdQ (k + m + 1) (x + y) := by
  rw [q_add]
  refine dq_bd (by have := den_pos x; have := den_pos y; exact Int.ne_of_gt (Int.mul_pos ‹_› ‹_›)) ?_ ((h.2.mul h'.2).mono (by omega))
  have h1 := h.1.mul h'.2
  have h2 := h'.1.mul h.2
  rw [Nat.add_comm m k] at h2
  exact h1.add h2
theorem BdQ.mul {k m : Nat} {x y : Rat} (h : BdQ k x) (h' : BdQ m y) : BdQ (k + m) (x * y) := by
  rw [q_mul]
  exact dq_bd (by have := den_pos x; have := den_pos y; exact Int.ne_of_gt (Int.mul_pos ‹_› ‹_›)) (h.1.mul h'.1) (h.2.mul h'.2)
theorem BdQ.div {k m : Nat} {x y : Rat} (h : BdQ k x) (h' : BdQ m y) (h0 : y ≠ 0) : BdQ (k + m) (x / y) := by
  rw [q_div]
  exact dq_bd (Int.mul_ne_zero (by have := den_pos x; omega) (num_ne h0)) (h.1.mul h'.2) (h.2.mul h'.1)
theorem BdQ.neg {k : Nat} {x : Rat} (h : BdQ k x) : BdQ k (-x) := by
  refine ⟨?_, ?_⟩
  · rw [Rat.neg_num]; have := h.1; unfold Bd at *; rwa [Int.natAbs_neg]
  · rw [Rat.neg_den]; exact h.2
theorem BdQ.sub {k m : Nat} {x y : Rat} (h : BdQ k x) (h' : BdQ m y) : BdQ (k + m + 1) (x - y) := by
  rw [Rat.sub_eq_add_neg]; exact h.add h'.neg
theorem BdQ.whole {k : Nat} {z : Int} (h : Bd k z) (hk : 1 ≤ k) : BdQ k (z : Rat) := by
  refine ⟨by rw [(whole_num z).1]; exact h, ?_⟩
  rw [(whole_num z).2]
  exact Nat.lt_of_lt_of_le (by decide : ((1 : Nat) : Int).natAbs < 2 ^ 1) (Nat.pow_le_pow_right (by omega) hk)
end Go.Proofs.YtbmaffijncapiaaGreatDoor

/- the reference's texts of rows and of matrices. -/
namespace Go.Proofs.YtbmaffijncapiaaGreatDoor
open Num
open Go.ChangeShapes Go.WideShapes Go.ChangeAt Go.RowKit
set_option linter.unusedVariables false
set_option linter.unusedSimpArgs false
attribute [local go_sem ↓] Go.wp_at_zero Go.wp_at_succ
theorem ba_app (a b : List UInt8) : (⟨a.toArray⟩ : ByteArray) ++ ⟨b.toArray⟩ = ⟨(a ++ b).toArray⟩ := by
  apply ByteArray.ext
  simp [ByteArray.data_append]
end Go.Proofs.YtbmaffijncapiaaGreatDoor

/- matrix's laws: is, comes. -/
namespace Go.Proofs.YtbmaffijncapiaaGreatDoor
open Num
open Go.ChangeShapes Go.WideShapes Go.ChangeAt Go.RowKit
set_option linter.unusedVariables false
set_option linter.unusedSimpArgs false
attribute [local go_sem ↓] Go.wp_at_zero Go.wp_at_succ
def RefM (w : World) (v : Value) (g : Grid) : Prop := IsL 110 (RRow 0) 0 w v g
theorem RefM.keep {w w' : World} {v : Value} {g : Grid} (h : RefM w v g) (k : Below w.heap.size w w') : RefM w' v g := IsL.keep prs_rrow h k
end Go.Proofs.YtbmaffijncapiaaGreatDoor

/- how long the texts of small matrices may be, plain. -/
namespace Go.Proofs.YtbmaffijncapiaaGreatDoor
open Num
set_option linter.unusedVariables false
set_option linter.unusedSimpArgs false
theorem natTxt_len {n k : Nat} (h : n < 2 ^ k) : (natTxt n).length ≤ k + 1 := by
  unfold natTxt
  split
  · simp
  · have := lowD_len k n h
    unfold asc
    simp
    omega
theorem intTxt_len {z : Int} {k : Nat} (h : Bd k z) : (intTxt z).length ≤ k + 2 := by
  have := natTxt_len (n := z.natAbs) (k := k) h
  unfold intTxt
  rw [List.length_append]
  split <;> simp <;> omega
open Go.ChangeShapes Go.WideShapes Go.ChangeAt Go.RowKit
end Go.Proofs.YtbmaffijncapiaaGreatDoor

/- denote, in plain Lean: what a program makes of rows of fractions. -/
namespace Go.Proofs.YtbmaffijncapiaaGreatDoor
open Num
set_option linter.unusedVariables false
set_option linter.unusedSimpArgs false
abbrev GridF := List (List Rat)
def opQ (i : Ins) (a b : Rat) : Rat :=
  if i.op = 2 then -a else if i.op = 3 then a + b else if i.op = 4 then a - b else if i.op = 5 then a * (i.c : Rat) else if i.op = 6 then a / (i.c : Rat)
  else if i.op = 7 then a * ((2 ^ i.c.toNat : Int) : Rat) else if i.op = 8 then a / ((2 ^ i.c.toNat : Int) : Rat) else a
def Slim (q : Rat) : Prop := BdQ 65536 q
instance (q : Rat) : Decidable (Slim q) := by unfold Slim BdQ Bd; infer_instance
def rowF (i : Ins) (a b : List Rat) : List Rat := (List.range a.length).map fun j => opQ i (a.getD j 0) (b.getD j 0)
theorem rowF_len (i : Ins) (a b : List Rat) : (rowF i a b).length = a.length := by simp [rowF]
theorem rowF_get (i : Ins) (a b : List Rat) {j : Nat} (h : j < a.length) : (rowF i a b).getD j 0 = opQ i (a.getD j 0) (b.getD j 0) := by simp [rowF, h]
def SlimR (r : List Rat) : Prop := ∀ j, j < r.length → Slim (r.getD j 0)
instance (r : List Rat) : Decidable (SlimR r) := by unfold SlimR; infer_instance
def stepF (i : Ins) (a b : List Rat) : Option (List Rat) := if SlimR (rowF i a b) then some (rowF i a b) else none
def afterF (code : List Ins) (g : GridF) : Nat → Option GridF
  | 0 => some g
  | n + 1 => (afterF code g n).bind fun s => (stepF (code.getD n default) (s.getD (code.getD n default).a.toNat []) (s.getD (code.getD n default).b.toNat [])).map fun r => s.set (code.getD n default).to.toNat r
theorem afterF_len {code : List Ins} {g : GridF} : ∀ {n : Nat} {s : GridF}, afterF code g n = some s → s.length = g.length
  | 0, s, h => by cases h; rfl
  | n + 1, s, h => by
    rw [afterF] at h
    obtain ⟨u, h1, h2⟩ := Option.bind_eq_some_iff.1 h
    obtain ⟨r, _, rfl⟩ := Option.map_eq_some_iff.1 h2
    rw [List.length_set]; exact afterF_len h1
theorem afterF_mono {code : List Ins} {g : GridF} {n m : Nat} (h : afterF code g n = none) (hm : n ≤ m) : afterF code g m = none := by
  induction m with
  | zero => have : n = 0 := by omega
            subst this; exact h
  | succ m ih =>
    by_cases e : n = m + 1
    · subst e; exact h
    · rw [afterF, ih (by omega)]; rfl
theorem gsetF (s : GridF) {t : Nat} (x : List Rat) (j : Nat) (ht : t < s.length) : (s.set t x).getD j [] = if j = t then x else s.getD j [] := by
  by_cases e : j = t
  · subst e; simp [ht]
  · rw [if_neg e, List.getD_eq_getElem?_getD, List.getElem?_set_ne (fun h => e h.symm), ← List.getD_eq_getElem?_getD]
def RectF (m : Nat) (g : GridF) : Prop := ∀ i, i < g.length → (g.getD i []).length = m
def SlimG (g : GridF) : Prop := ∀ i, i < g.length → SlimR (g.getD i [])
theorem afterF_ok {code : List Ins} {g : GridF} {m : Nat} (hr : RectF m g) (hs : SlimG g) (hc : ∀ n, n < code.length → 0 ≤ (code.getD n default).a ∧ (code.getD n default).a < g.length) : ∀ {n : Nat} {s : GridF}, n ≤ code.length → afterF code g n = some s → RectF m s ∧ SlimG s
  | 0, s, _, h => by cases h; exact ⟨hr, hs⟩
  | n + 1, s, hn, h => by
    rw [afterF] at h
    obtain ⟨u, h1, h2⟩ := Option.bind_eq_some_iff.1 h
    obtain ⟨r, h3, rfl⟩ := Option.map_eq_some_iff.1 h2
    obtain ⟨k1, k2⟩ := afterF_ok hr hs hc (by omega) h1
    have hl := afterF_len h1
    obtain ⟨ha0, ha1⟩ := hc n (by omega)
    unfold stepF at h3
    split at h3
    · rename_i hsl
      cases h3
      have hrl := k1 (code.getD n default).a.toNat (by omega)
      refine ⟨fun i hi => ?_, fun i hi => ?_⟩
      · rw [List.length_set] at hi
        by_cases e : i = (code.getD n default).to.toNat
        · rw [gsetF _ _ _ (by omega), if_pos e, rowF_len]; exact hrl
        · by_cases e2 : (code.getD n default).to.toNat < u.length
          · rw [gsetF _ _ _ e2, if_neg e]; exact k1 i hi
          · rw [List.set_eq_of_length_le (by omega)]; exact k1 i hi
      · rw [List.length_set] at hi
        by_cases e : i = (code.getD n default).to.toNat
        · rw [gsetF _ _ _ (by omega), if_pos e]; exact hsl
        · by_cases e2 : (code.getD n default).to.toNat < u.length
          · rw [gsetF _ _ _ e2, if_neg e]; exact k2 i hi
          · rw [List.set_eq_of_length_le (by omega)]; exact k2 i hi
    · cases h3
def outsF (outs : List Int) (s : GridF) : GridF := outs.map fun k => s.getD k.toNat []
def unitsF (n R : Nat) : GridF := (List.range R).map fun k => (List.range n).map fun j => if j = k then (1 : Rat) else 0
end Go.Proofs.YtbmaffijncapiaaGreatDoor

/- Elimination by fractions against that without: the same pivots; what divides; its bits. -/
set_option linter.unusedVariables false
set_option linter.unusedSimpArgs false
namespace Det
end Det

/- Elimination by fractions: bits; the determinant that comes out. -/
namespace Go.Proofs.YtbmaffijncapiaaGreatDoor
open Num
set_option linter.unusedVariables false
set_option linter.unusedSimpArgs false
end Go.Proofs.YtbmaffijncapiaaGreatDoor

