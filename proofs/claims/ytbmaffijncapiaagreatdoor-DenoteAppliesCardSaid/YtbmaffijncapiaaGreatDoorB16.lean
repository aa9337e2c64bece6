/- Texts of this seat, laid together: MwI, MwS, MwW, MwX, MwY, MiA, MiB, RaA, RaB, RaC, RaD, QPa. What each theorem proves, and under which conditions, its statement says. -/
import Derived.Test.YtbmaffijncapiaaGreatDoorB15
set_option maxRecDepth 100000
set_option maxHeartbeats 32000000
set_option linter.unusedVariables false
set_option linter.unusedSimpArgs false
namespace Go.Proofs.YtbmaffijncapiaaGreatDoor
open Go.ChangeShapes Go.WideShapes Go.ChangeAt Go.RowKit
section
open Num
structure Mt (k : Nat) (g : Grid) (v : Value) (w : World) : Prop where
 m : IsM 0 w v g
 rc : Rct g (cols g)
 sz : 0 < g.length ∧ 0 < cols g ∧ g.length ≤ 16 ∧ cols g ≤ 16
 bd : BdM k g
theorem Mt.keep {k : Nat} {g : Grid} {v : Value} {w w' : World} (h : Mt k g v w) (b : Below w.heap.size w w') : Mt k g v w' := ⟨h.m.keep b, h.rc, h.sz, h.bd⟩
end
section
open Num
attribute [local go_sem ↓] Go.wp_at_zero Go.wp_at_succ
def KpC (c : Nat) (X Y : World) : Prop := X.heap.size ≤ Y.heap.size ∧ ∀ (B i : Nat) (v : Value), B ≠ c → X.cell? ⟨B, i, none⟩ = some v → Y.cell? ⟨B, i, none⟩ = some v
theorem KpC.refl (c : Nat) (X : World) : KpC c X X := ⟨Nat.le_refl _, fun _ _ _ _ h => h⟩
theorem KpC.trans {c : Nat} {X Y Z : World} (h : KpC c X Y) (k : KpC c Y Z) : KpC c X Z := ⟨Nat.le_trans h.1 k.1, fun B i v hb hv => k.2 B i v hb (h.2 B i v hb hv)⟩
end
end Go.Proofs.YtbmaffijncapiaaGreatDoor
namespace Go.Proofs.YtbmaffijncapiaaGreatDoor
open Num
theorem gcd_dvdR (x y : Int) : gcdI x y ∣ y := Int.gcd_dvd_right (a := x) (b := y)
section
variable {g : Grid} {n : Nat}
end
end Go.Proofs.YtbmaffijncapiaaGreatDoor
namespace Go.Proofs.YtbmaffijncapiaaGreatDoor
open Go.ChangeShapes Go.WideShapes Go.ChangeAt Go.RowKit
section
open Num
attribute [local go_sem ↓] Go.wp_at_zero Go.wp_at_succ
def IsRat (w : World) (v : Value) (n d : Int) : Prop := ∃ n1 a1 l1 c1 n2 a2 l2 c2, v = .agg #[.bool n1, .slice a1 l1 c1, .bool n2, .slice a2 l2 c2] ∧ IsInt w (.agg #[.bool n1, .slice a1 l1 c1]) n ∧ IsInt w (.agg #[.bool n2, .slice a2 l2 c2]) (d - 1)
theorem IsInt.lit {w : World} {v : Value} {z : Int} (h : IsInt w v z) : ∃ n a l c, v = .agg #[.bool n, .slice a l c] := by
 obtain ⟨n, a, c, l, rfl, -⟩ := h
 exact ⟨n, a, l.length, c, rfl⟩
theorem bd_one {k : Nat} {d : Int} (h : Bd k d) (h0 : d ≠ 0) : Bd k 1 := by unfold Bd at *; have : (1 : Int).natAbs = 1 := rfl; omega
theorem bd_quot {k : Nat} {d G : Int} (h : Bd k d) (hd : G ∣ d) (h0 : G ≠ 0) : Bd k (d / G) := by
 obtain ⟨q, rfl⟩ := hd
 rw [Int.mul_ediv_cancel_left _ h0]
 unfold Bd at *
 rw [Int.natAbs_mul] at h
 have h1 : 1 ≤ G.natAbs := by omega
 have h2 := Nat.mul_le_mul_right q.natAbs h1
 omega
theorem IsInt.put4 {w : World} {x : Value} {z : Int} {g : Nat} {b b' : Bool} {a a' : Option Addr} {n c n' c' : Nat} (h : IsInt w x z) (r0 : w.cell? ⟨g, 0, none⟩ = some (.bool b)) (r1 : w.cell? ⟨g, 1, none⟩ = some (.slice a n c)) (r2 : w.cell? ⟨g, 2, none⟩ = some (.bool b')) (r3 : w.cell? ⟨g, 3, none⟩ = some (.slice a' n' c')) (u0 u1 u2 u3 : Value) : IsInt ((((w.setCell ⟨g, 0, none⟩ u0).setCell ⟨g, 1, none⟩ u1).setCell ⟨g, 2, none⟩ u2).setCell ⟨g, 3, none⟩ u3) x z :=
 (((h.put r0 (fun _ e => by cases e) u0).put (cell_far r1 (by simp) u0) (fun _ e => by cases e) u1).put (cell_far (cell_far r2 (by simp) u0) (by simp) u1) (fun _ e => by cases e) u2).put (cell_far (cell_far (cell_far r3 (by simp) u0) (by simp) u1) (by simp) u2) (fun _ e => by cases e) u3
section
variable {w : World} {g b i : Nat} {u v x : Value}
theorem put2_keep (h : w.cell? ⟨b, i, none⟩ = some x) (hne : b ≠ g) : ((w.setCell ⟨g, 0, none⟩ u).setCell ⟨g, 1, none⟩ v).cell? ⟨b, i, none⟩ = some x :=
 cell_far (cell_far h (fun e => hne (congrArg Addr.block e).symm) _) (fun e => hne (congrArg Addr.block e).symm) _
theorem put2_0 (h : w.cell? ⟨g, 0, none⟩ = some x) : ((w.setCell ⟨g, 0, none⟩ u).setCell ⟨g, 1, none⟩ v).cell? ⟨g, 0, none⟩ = some u := cell_far (cell_here h u) (by simp) v
theorem put2_1 (h : w.cell? ⟨g, 1, none⟩ = some x) : ((w.setCell ⟨g, 0, none⟩ u).setCell ⟨g, 1, none⟩ v).cell? ⟨g, 1, none⟩ = some v := cell_here (cell_far h (by simp) u) v
theorem put2_f {a : Addr} (h : w.frozen? a = false) : ((w.setCell ⟨g, 0, none⟩ u).setCell ⟨g, 1, none⟩ v).frozen? a = false := by rw [World.frozen?_setCell, World.frozen?_setCell]; exact h
end
theorem lowest_c (vn vd : Value) (n d : Int) (k : Nat) (w : World) (hn : IsInt w vn n) (hd : IsInt w vd d) (bn : Bd k n) (bd : Bd k d) (hk : k ≤ 17179869180) (h0 : d ≠ 0) :
 Calls Tryz.prog 126 #[vn, vd] w fun e w' => (∃ v, e = .returned v ∧ IsRat w' v (n / gcdI n d) (d / gcdI n d)) ∧ Below w.heap.size w w' := by
 have HN := hZ hn
 have HD := hZ hd
 have GC := hZ (fun W (q : Below w.heap.size w W) => gcdI_c vn vd n d k W (hn.keep q) (hd.keep q) bn bd (by omega))
 obtain ⟨nn, na, nl, nc, rfl⟩ := hn.lit
 obtain ⟨dn, da, dl, dc, rfl⟩ := hd.lit
 have hG0 : gcdI n d ≠ 0 := fun e => h0 (by
  have := gcd_dvdR n d
  rw [e] at this
  exact Int.zero_dvd.1 this)
 have bG : Bd k (gcdI n d) := gcdI_bd bn bd
 obtain ⟨G, hG⟩ : ∃ G, gcdI n d = G := ⟨_, rfl⟩
 rw [hG] at GC hG0 bG ⊢
 have HBD := hZ (And.intro bn (And.intro bd (And.intro bG hG0)))
 have HB1 := hZ (bd_one bd h0)
 have HBV := hZ (bd_quot bd (show G ∣ d by rw [← hG]; exact gcd_dvdR n d) hG0)
 clear hG hn hd bn bd bG hG0 h0
 have hB := Below.refl w.heap.size w
 go_enter Tryz.func126, Tryz.ntmps126
 go_wp2_with fail
 (with_reducible refine (GC.out _ ?_).mono ?_); (repeat (first|exact bzR _ _|exact hB|refine bzD ?_|refine bzN ?_|refine bzS ?_|refine bzA ?_))
 rintro e w1 ⟨⟨g, rfl, hg⟩, hb1⟩
 have n0 : w1.cell? ⟨w.heap.size, 0, none⟩ = some (.bool nn) := bkc hb1
 have zn0 := cell_lt n0
 have n0f : w1.frozen? ⟨w.heap.size, 0, none⟩ = false := bkcf (v := .bool nn) hb1
 have n1 : w1.cell? ⟨w.heap.size, 1, none⟩ = some (.slice na nl nc) := bkc hb1
 have n1f : w1.frozen? ⟨w.heap.size, 1, none⟩ = false := bkcf (v := .slice na nl nc) hb1
 have d0 : w1.cell? ⟨w.heap.size + 1, 0, none⟩ = some (.bool dn) := bkc hb1
 have zd0 := cell_lt d0
 have d0f : w1.frozen? ⟨w.heap.size + 1, 0, none⟩ = false := bkcf (v := .bool dn) hb1
 have d1 : w1.cell? ⟨w.heap.size + 1, 1, none⟩ = some (.slice da dl dc) := bkc hb1
 have d1f : w1.frozen? ⟨w.heap.size + 1, 1, none⟩ = false := bkcf (v := .slice da dl dc) hb1
 have r0 : w1.cell? ⟨w.heap.size + 1 + 1, 0, none⟩ = some (.bool false) := bkc hb1
 have zr0 := cell_lt r0
 have r0f : w1.frozen? ⟨w.heap.size + 1 + 1, 0, none⟩ = false := bkcf (v := .bool false) hb1
 have r1 : w1.cell? ⟨w.heap.size + 1 + 1, 1, none⟩ = some (.slice none 0 0) := bkc hb1
 have r1f : w1.frozen? ⟨w.heap.size + 1 + 1, 1, none⟩ = false := bkcf (v := .slice none 0 0) hb1
 have r2 : w1.cell? ⟨w.heap.size + 1 + 1, 2, none⟩ = some (.bool false) := bkc hb1
 have r2f : w1.frozen? ⟨w.heap.size + 1 + 1, 2, none⟩ = false := bkcf (v := .bool false) hb1
 have r3 : w1.cell? ⟨w.heap.size + 1 + 1, 3, none⟩ = some (.slice none 0 0) := bkc hb1
 have r3f : w1.frozen? ⟨w.heap.size + 1 + 1, 3, none⟩ = false := bkcf (v := .slice none 0 0) hb1
 have hB : Below w.heap.size w w1 := bthen bZ hb1
 have hz := hB.size
 have ZZ := hZ (show w.heap.size + 1 + 1 < w1.heap.size from cell_lt r0)
 have HG := hZ hg
 have HN1 := hZ (HN.out.keep hB)
 have HD1 := hZ (HD.out.keep hB)
 obtain ⟨gn, ga, gl, gc, rfl⟩ := hg.lit
 clear GC hg HN HD
 have hBw := Below.refl w1.heap.size w1
 have D1 := hZ (fun W (q : Below w1.heap.size w1 W) => divmod_c _ _ n G k W (HN1.out.keep q) (HG.out.keep q) HBD.out.1 HBD.out.2.2.1 (by omega) HBD.out.2.2.2)
 go_wp2_with fail
 (with_reducible refine (D1.out _ ?_).mono ?_); (repeat (first|exact bzR _ _|exact hBw|refine bzD ?_|refine bzN ?_|refine bzS ?_|refine bzA ?_))
 rintro e w2 ⟨⟨u, u', rfl, hu, hu'⟩, hb2⟩
 have hk : Below w1.heap.size w1 w2 := bthen bZ hb2
 have n0 : w2.cell? ⟨w.heap.size, 0, none⟩ = some (.bool nn) := bkc hb2
 have zn0 := cell_lt n0
 have n0f : w2.frozen? ⟨w.heap.size, 0, none⟩ = false := bkcf (v := .bool nn) hb2
 have n1 : w2.cell? ⟨w.heap.size, 1, none⟩ = some (.slice na nl nc) := bkc hb2
 have n1f : w2.frozen? ⟨w.heap.size, 1, none⟩ = false := bkcf (v := .slice na nl nc) hb2
 have d0 : w2.cell? ⟨w.heap.size + 1, 0, none⟩ = some (.bool dn) := bkc hb2
 have zd0 := cell_lt d0
 have d0f : w2.frozen? ⟨w.heap.size + 1, 0, none⟩ = false := bkcf (v := .bool dn) hb2
 have d1 : w2.cell? ⟨w.heap.size + 1, 1, none⟩ = some (.slice da dl dc) := bkc hb2
 have d1f : w2.frozen? ⟨w.heap.size + 1, 1, none⟩ = false := bkcf (v := .slice da dl dc) hb2
 have r0 : w2.cell? ⟨w.heap.size + 1 + 1, 0, none⟩ = some (.bool false) := bkc hb2
 have zr0 := cell_lt r0
 have r0f : w2.frozen? ⟨w.heap.size + 1 + 1, 0, none⟩ = false := bkcf (v := .bool false) hb2
 have r1 : w2.cell? ⟨w.heap.size + 1 + 1, 1, none⟩ = some (.slice none 0 0) := bkc hb2
 have r1f : w2.frozen? ⟨w.heap.size + 1 + 1, 1, none⟩ = false := bkcf (v := .slice none 0 0) hb2
 have r2 : w2.cell? ⟨w.heap.size + 1 + 1, 2, none⟩ = some (.bool false) := bkc hb2
 have r2f : w2.frozen? ⟨w.heap.size + 1 + 1, 2, none⟩ = false := bkcf (v := .bool false) hb2
 have r3 : w2.cell? ⟨w.heap.size + 1 + 1, 3, none⟩ = some (.slice none 0 0) := bkc hb2
 have r3f : w2.frozen? ⟨w.heap.size + 1 + 1, 3, none⟩ = false := bkcf (v := .slice none 0 0) hb2
 have g0 : w2.cell? ⟨w1.heap.size, 0, none⟩ = some (.bool gn) := bkc hb2
 have zg0 := cell_lt g0
 have g1 : w2.cell? ⟨w1.heap.size, 1, none⟩ = some (.slice ga gl gc) := bkc hb2
 have hB : Below w.heap.size w w2 := bthen bZ hb2
 have hz := hB.size
 have HU := hZ hu
 have HD2 := hZ (HD1.out.keep hk)
 have HG2 := hZ (HG.out.keep hk)
 obtain ⟨un, ua, ul, uc, rfl⟩ := hu.lit
 obtain ⟨vn', va', vl', vc', rfl⟩ := hu'.lit
 clear D1 hu hu' HN1 HD1 HG hBw hk hb1 hb2
 go_upto_region 3 with (fail)
 have hzz : w.heap.size + 1 + 1 < w1.heap.size := ZZ.out
 have HU3 := hZ (HU.out.put2 n0 n1 (.bool un) (.slice ua ul uc))
 have HD3 := hZ (HD2.out.put2 n0 n1 (.bool un) (.slice ua ul uc))
 have HG3 := hZ (HG2.out.put2 n0 n1 (.bool un) (.slice ua ul uc))
 refine wp_name fun w3 hW3 => ?_
 rw [← hW3] at HU3 HD3 HG3
 have hB : Below w.heap.size w w3 := by rw [hW3]; exact bset (bset hB (by show w.heap.size ≤ w.heap.size; omega) _) (by show w.heap.size ≤ w.heap.size; omega) _
 have n0q : w3.cell? ⟨w.heap.size, 0, none⟩ = some (.bool un) := by rw [hW3]; exact put2_0 n0
 have n0qf : w3.frozen? ⟨w.heap.size, 0, none⟩ = false := by rw [hW3]; exact put2_f n0f
 have n1q : w3.cell? ⟨w.heap.size, 1, none⟩ = some (.slice ua ul uc) := by rw [hW3]; exact put2_1 n1
 have n1qf : w3.frozen? ⟨w.heap.size, 1, none⟩ = false := by rw [hW3]; exact put2_f n1f
 have d0q := put2_keep (u := .bool un) (v := .slice ua ul uc) d0 (show _ ≠ w.heap.size by omega)
 rw [← hW3] at d0q
 have d0qf := put2_f (g := w.heap.size) (u := .bool un) (v := .slice ua ul uc) d0f
 rw [← hW3] at d0qf
 have d1q := put2_keep (u := .bool un) (v := .slice ua ul uc) d1 (show _ ≠ w.heap.size by omega)
 rw [← hW3] at d1q
 have d1qf := put2_f (g := w.heap.size) (u := .bool un) (v := .slice ua ul uc) d1f
 rw [← hW3] at d1qf
 have r0q := put2_keep (u := .bool un) (v := .slice ua ul uc) r0 (show _ ≠ w.heap.size by omega)
 rw [← hW3] at r0q
 have r0qf := put2_f (g := w.heap.size) (u := .bool un) (v := .slice ua ul uc) r0f
 rw [← hW3] at r0qf
 have r1q := put2_keep (u := .bool un) (v := .slice ua ul uc) r1 (show _ ≠ w.heap.size by omega)
 rw [← hW3] at r1q
 have r1qf := put2_f (g := w.heap.size) (u := .bool un) (v := .slice ua ul uc) r1f
 rw [← hW3] at r1qf
 have r2q := put2_keep (u := .bool un) (v := .slice ua ul uc) r2 (show _ ≠ w.heap.size by omega)
 rw [← hW3] at r2q
 have r2qf := put2_f (g := w.heap.size) (u := .bool un) (v := .slice ua ul uc) r2f
 rw [← hW3] at r2qf
 have r3q := put2_keep (u := .bool un) (v := .slice ua ul uc) r3 (show _ ≠ w.heap.size by omega)
 rw [← hW3] at r3q
 have r3qf := put2_f (g := w.heap.size) (u := .bool un) (v := .slice ua ul uc) r3f
 rw [← hW3] at r3qf
 have g0q := put2_keep (u := .bool un) (v := .slice ua ul uc) g0 (show _ ≠ w.heap.size by omega)
 rw [← hW3] at g0q
 have g1q := put2_keep (u := .bool un) (v := .slice ua ul uc) g1 (show _ ≠ w.heap.size by omega)
 rw [← hW3] at g1q
 clear hW3 n0 n1 d0 d1 r0 r1 r2 r3 g0 g1 n0f n1f d0f d1f r0f r1f r2f r3f
 have n0 := n0q
 have n1 := n1q
 have d0 := d0q
 have d1 := d1q
 have r0 := r0q
 have r1 := r1q
 have r2 := r2q
 have r3 := r3q
 have g0 := g0q
 have g1 := g1q
 have n0f := n0qf
 have n1f := n1qf
 have d0f := d0qf
 have d1f := d1qf
 have r0f := r0qf
 have r1f := r1qf
 have r2f := r2qf
 have r3f := r3qf
 clear n0q n1q d0q d1q r0q r1q r2q r3q g0q g1q n0qf n1qf d0qf d1qf r0qf r1qf r2qf r3qf
 have zn0 := cell_lt n0
 have zd0 := cell_lt d0
 have zr0 := cell_lt r0
 have zg0 := cell_lt g0
 clear HU HD2 HG2
 have hBw := Below.refl w3.heap.size w3
 have D2 := hZ (fun W (q : Below w3.heap.size w3 W) => divmod_c _ _ d G k W (HD3.out.keep q) (HG3.out.keep q) HBD.out.2.1 HBD.out.2.2.1 (by omega) HBD.out.2.2.2)
 go_wp2_with fail
 (with_reducible refine (D2.out _ ?_).mono ?_); (repeat (first|exact bzR _ _|exact hBw|refine bzD ?_|refine bzN ?_|refine bzS ?_|refine bzA ?_))
 rintro e w4 ⟨⟨v, v', rfl, hv, hv'⟩, hb4⟩
 have hk : Below w3.heap.size w3 w4 := bthen bZ hb4
 have n0 : w4.cell? ⟨w.heap.size, 0, none⟩ = some (.bool un) := bkc hb4
 have zn0 := cell_lt n0
 have n0f : w4.frozen? ⟨w.heap.size, 0, none⟩ = false := bkcf (v := .bool un) hb4
 have n1 : w4.cell? ⟨w.heap.size, 1, none⟩ = some (.slice ua ul uc) := bkc hb4
 have n1f : w4.frozen? ⟨w.heap.size, 1, none⟩ = false := bkcf (v := .slice ua ul uc) hb4
 have d0 : w4.cell? ⟨w.heap.size + 1, 0, none⟩ = some (.bool dn) := bkc hb4
 have zd0 := cell_lt d0
 have d0f : w4.frozen? ⟨w.heap.size + 1, 0, none⟩ = false := bkcf (v := .bool dn) hb4
 have d1 : w4.cell? ⟨w.heap.size + 1, 1, none⟩ = some (.slice da dl dc) := bkc hb4
 have d1f : w4.frozen? ⟨w.heap.size + 1, 1, none⟩ = false := bkcf (v := .slice da dl dc) hb4
 have r0 : w4.cell? ⟨w.heap.size + 1 + 1, 0, none⟩ = some (.bool false) := bkc hb4
 have zr0 := cell_lt r0
 have r0f : w4.frozen? ⟨w.heap.size + 1 + 1, 0, none⟩ = false := bkcf (v := .bool false) hb4
 have r1 : w4.cell? ⟨w.heap.size + 1 + 1, 1, none⟩ = some (.slice none 0 0) := bkc hb4
 have r1f : w4.frozen? ⟨w.heap.size + 1 + 1, 1, none⟩ = false := bkcf (v := .slice none 0 0) hb4
 have r2 : w4.cell? ⟨w.heap.size + 1 + 1, 2, none⟩ = some (.bool false) := bkc hb4
 have r2f : w4.frozen? ⟨w.heap.size + 1 + 1, 2, none⟩ = false := bkcf (v := .bool false) hb4
 have r3 : w4.cell? ⟨w.heap.size + 1 + 1, 3, none⟩ = some (.slice none 0 0) := bkc hb4
 have r3f : w4.frozen? ⟨w.heap.size + 1 + 1, 3, none⟩ = false := bkcf (v := .slice none 0 0) hb4
 have hB : Below w.heap.size w w4 := bthen bZ hb4
 have hz := hB.size
 have HV := hZ hv
 have HU4 := hZ (HU3.out.keep hk)
 obtain ⟨vn, va, vl, vc, rfl⟩ := hv.lit
 obtain ⟨xn', xa', xl', xc', rfl⟩ := hv'.lit
 clear D2 hv hv' HU3 HD3 HG3 hBw hk hb4
 go_upto_region 4 with (fail)
 have HU5 := hZ (HU4.out.put2 d0 d1 (.bool vn) (.slice va vl vc))
 have HV5 := hZ (HV.out.put2 d0 d1 (.bool vn) (.slice va vl vc))
 refine wp_name fun w5 hW5 => ?_
 rw [← hW5] at HU5 HV5
 have hB : Below w.heap.size w w5 := by rw [hW5]; exact bset (bset hB (by show w.heap.size ≤ w.heap.size + 1; omega) _) (by show w.heap.size ≤ w.heap.size + 1; omega) _
 have d0q : w5.cell? ⟨w.heap.size + 1, 0, none⟩ = some (.bool vn) := by rw [hW5]; exact put2_0 d0
 have d0qf : w5.frozen? ⟨w.heap.size + 1, 0, none⟩ = false := by rw [hW5]; exact put2_f d0f
 have d1q : w5.cell? ⟨w.heap.size + 1, 1, none⟩ = some (.slice va vl vc) := by rw [hW5]; exact put2_1 d1
 have d1qf : w5.frozen? ⟨w.heap.size + 1, 1, none⟩ = false := by rw [hW5]; exact put2_f d1f
 have n0q := put2_keep (u := .bool vn) (v := .slice va vl vc) n0 (show _ ≠ w.heap.size + 1 by omega)
 rw [← hW5] at n0q
 have n0qf := put2_f (g := w.heap.size + 1) (u := .bool vn) (v := .slice va vl vc) n0f
 rw [← hW5] at n0qf
 have n1q := put2_keep (u := .bool vn) (v := .slice va vl vc) n1 (show _ ≠ w.heap.size + 1 by omega)
 rw [← hW5] at n1q
 have n1qf := put2_f (g := w.heap.size + 1) (u := .bool vn) (v := .slice va vl vc) n1f
 rw [← hW5] at n1qf
 have r0q := put2_keep (u := .bool vn) (v := .slice va vl vc) r0 (show _ ≠ w.heap.size + 1 by omega)
 rw [← hW5] at r0q
 have r0qf := put2_f (g := w.heap.size + 1) (u := .bool vn) (v := .slice va vl vc) r0f
 rw [← hW5] at r0qf
 have r1q := put2_keep (u := .bool vn) (v := .slice va vl vc) r1 (show _ ≠ w.heap.size + 1 by omega)
 rw [← hW5] at r1q
 have r1qf := put2_f (g := w.heap.size + 1) (u := .bool vn) (v := .slice va vl vc) r1f
 rw [← hW5] at r1qf
 have r2q := put2_keep (u := .bool vn) (v := .slice va vl vc) r2 (show _ ≠ w.heap.size + 1 by omega)
 rw [← hW5] at r2q
 have r2qf := put2_f (g := w.heap.size + 1) (u := .bool vn) (v := .slice va vl vc) r2f
 rw [← hW5] at r2qf
 have r3q := put2_keep (u := .bool vn) (v := .slice va vl vc) r3 (show _ ≠ w.heap.size + 1 by omega)
 rw [← hW5] at r3q
 have r3qf := put2_f (g := w.heap.size + 1) (u := .bool vn) (v := .slice va vl vc) r3f
 rw [← hW5] at r3qf
 clear hW5 d0 d1 n0 n1 r0 r1 r2 r3 n0f n1f d0f d1f r0f r1f r2f r3f
 have d0 := d0q
 have d1 := d1q
 have n0 := n0q
 have n1 := n1q
 have r0 := r0q
 have r1 := r1q
 have r2 := r2q
 have r3 := r3q
 have n0f := n0qf
 have n1f := n1qf
 have d0f := d0qf
 have d1f := d1qf
 have r0f := r0qf
 have r1f := r1qf
 have r2f := r2qf
 have r3f := r3qf
 clear d0q d1q n0q n1q r0q r1q r2q r3q n0qf n1qf d0qf d1qf r0qf r1qf r2qf r3qf
 have zn0 := cell_lt n0
 have zd0 := cell_lt d0
 have zr0 := cell_lt r0
 clear HU4 HV
 have hBw := Below.refl w5.heap.size w5
 have OC := hZ (fun W => of_c 1 W (by decide) (by decide))
 have SC := hZ (fun u W (q : Below w5.heap.size w5 W) (hu : IsInt W u 1) => subI_c _ u (d / G) 1 k W (HV5.out.keep q) hu HBV.out HB1.out (by omega))
 have HB5 := hZ hB
 have HCELL := hZ (show ∀ V, Below w5.heap.size w5 V → (V.cell? ⟨w.heap.size, 0, none⟩ = some (.bool un) ∧ V.cell? ⟨w.heap.size, 1, none⟩ = some (.slice ua ul uc) ∧ V.cell? ⟨w.heap.size + 1, 0, none⟩ = some (.bool vn) ∧ V.cell? ⟨w.heap.size + 1, 1, none⟩ = some (.slice va vl vc)) ∧ (V.cell? ⟨w.heap.size + 1 + 1, 0, none⟩ = some (.bool false) ∧ V.cell? ⟨w.heap.size + 1 + 1, 1, none⟩ = some (.slice none 0 0) ∧ V.cell? ⟨w.heap.size + 1 + 1, 2, none⟩ = some (.bool false) ∧ V.cell? ⟨w.heap.size + 1 + 1, 3, none⟩ = some (.slice none 0 0)) ∧ (V.frozen? ⟨w.heap.size + 1 + 1, 0, none⟩ = false ∧ V.frozen? ⟨w.heap.size + 1 + 1, 1, none⟩ = false ∧ V.frozen? ⟨w.heap.size + 1 + 1, 2, none⟩ = false ∧ V.frozen? ⟨w.heap.size + 1 + 1, 3, none⟩ = false) from fun V q => ⟨⟨bkeep q n0, bkeep q n1, bkeep q d0, bkeep q d1⟩, ⟨bkeep q r0, bkeep q r1, bkeep q r2, bkeep q r3⟩, ⟨bkeepf q r0 r0f, bkeepf q r1 r1f, bkeepf q r2 r2f, bkeepf q r3 r3f⟩⟩)
 clear n0f n1f d0f d1f hzz
 go_region_law (go_simp; go_wp2_with (first
  | (go_at_call 45; refine (OC.out _).mono ?_; rintro e w6 ⟨⟨ov, rfl, hov⟩, hb6⟩; (replace hBw : Below w5.heap.size w5 w6 := bthen bZ hb6); have HO := hZ hov; have hy6 := Below.refl w6.heap.size w6; obtain ⟨⟨n0, n1, d0, d1⟩, ⟨r0, r1, r2, r3⟩, ⟨r0f, r1f, r2f, r3f⟩⟩ := HCELL.out w6 hBw; obtain ⟨n6, a6, c6, l6, rfl, -⟩ := hov; unfold iv at *)
  | (go_at_call 211; refine (SC.out _ _ ?_ (HO.out.keep ?_)).mono ?_; (repeat (first|exact bzR _ _|exact hBw|refine bzD ?_|refine bzN ?_|refine bzS ?_|refine bzA ?_)); (repeat (first|exact bzR _ _|exact hy6|refine bzD ?_|refine bzN ?_|refine bzS ?_|refine bzA ?_)); rintro e w7 ⟨⟨sv, rfl, hsv⟩, hb7⟩; (replace hBw : Below w5.heap.size w5 w7 := bthen bZ hb7); have HSV := hZ hsv; obtain ⟨⟨n0, n1, d0, d1⟩, ⟨r0, r1, r2, r3⟩, ⟨r0f, r1f, r2f, r3f⟩⟩ := HCELL.out w7 hBw; obtain ⟨sn, sa, sl, sc, rfl⟩ := hsv.lit)
  | fail))
 all_goals
  have HU7 := hZ ((HU5.out.keep hBw).put4 r0 r1 r2 r3 (.bool un) (.slice ua ul uc) (.bool sn) (.slice sa sl sc))
  have HS7 := hZ (HSV.out.put4 r0 r1 r2 r3 (.bool un) (.slice ua ul uc) (.bool sn) (.slice sa sl sc))
  have hBf := bthen HB5.out hBw
  go_wp2
  refine bodyPost_ret (v := .agg #[.bool un, .slice ua ul uc, .bool sn, .slice sa sl sc]) (by simp [results, Tryz.results126, go_sem, *]) rfl ⟨⟨_, rfl, _, _, _, _, _, _, _, _, rfl, ?_, ?_⟩, ?_⟩
  · first | exact HU7.out | exact HU7.out.keep (Below.refl _ _).drew
  · first | exact HS7.out | exact HS7.out.keep (Below.refl _ _).drew
  ·
   repeat exact bZ
end
section
open Num
attribute [local go_sem ↓] Go.wp_at_zero Go.wp_at_succ
theorem makePos_c (vn vd : Value) (n d : Int) (k : Nat) (w : World) (hn : IsInt w vn n) (hd : IsInt w vd d) (bn : Bd k n) (bd : Bd k d) (hk : k ≤ 17179869180) (h0 : 0 < d) :
 Calls Tryz.prog 130 #[vn, vd] w fun e w' => (∃ v, e = .returned (.tuple #[v, .int .i64 0]) ∧ IsRat w' v (n / gcdI n d) (d / gcdI n d)) ∧ Below w.heap.size w w' := by
 have SG := hZ (fun W (q : Below w.heap.size w W) => (show Calls Tryz.prog 25 #[vd] W fun e w' => e = .returned (.int .i64 1) ∧ Below W.heap.size W w' from by
  have h := sign_c vd d W (hd.keep q)
  rw [Int.sign_eq_one_of_pos h0] at h
  exact h))
 have LC := hZ (fun W (q : Below w.heap.size w W) => lowest_c vn vd n d k W (hn.keep q) (hd.keep q) bn bd hk (by omega))
 obtain ⟨nn, na, nl, nc, rfl⟩ := hn.lit
 obtain ⟨dn, da, dl, dc, rfl⟩ := hd.lit
 obtain ⟨N, hN⟩ : ∃ N, n / gcdI n d = N := ⟨_, rfl⟩
 obtain ⟨D, hD⟩ : ∃ D, d / gcdI n d = D := ⟨_, rfl⟩
 rw [hN, hD] at LC ⊢
 clear hN hD hn hd bn bd hk h0
 have hB := Below.refl w.heap.size w
 go_enter Tryz.func130, Tryz.ntmps130
 go_wp2_with fail
 (with_reducible refine (SG.out _ ?_).mono ?_); (repeat (first|exact bzR _ _|exact hB|refine bzD ?_|refine bzN ?_|refine bzS ?_|refine bzA ?_))
 rintro e w1 ⟨rfl, hb1⟩
 have n0 : w1.cell? ⟨w.heap.size, 0, none⟩ = some (.bool nn) := bkc hb1
 have zn0 := cell_lt n0
 have n1 : w1.cell? ⟨w.heap.size, 1, none⟩ = some (.slice na nl nc) := bkc hb1
 have d0 : w1.cell? ⟨w.heap.size + 1, 0, none⟩ = some (.bool dn) := bkc hb1
 have zd0 := cell_lt d0
 have d1 : w1.cell? ⟨w.heap.size + 1, 1, none⟩ = some (.slice da dl dc) := bkc hb1
 have r0 : w1.cell? ⟨w.heap.size + 1 + 1, 0, none⟩ = some (.bool false) := bkc hb1
 have zr0 := cell_lt r0
 have r0f : w1.frozen? ⟨w.heap.size + 1 + 1, 0, none⟩ = false := bkcf (v := .bool false) hb1
 have r1 : w1.cell? ⟨w.heap.size + 1 + 1, 1, none⟩ = some (.slice none 0 0) := bkc hb1
 have r1f : w1.frozen? ⟨w.heap.size + 1 + 1, 1, none⟩ = false := bkcf (v := .slice none 0 0) hb1
 have r2 : w1.cell? ⟨w.heap.size + 1 + 1, 2, none⟩ = some (.bool false) := bkc hb1
 have r2f : w1.frozen? ⟨w.heap.size + 1 + 1, 2, none⟩ = false := bkcf (v := .bool false) hb1
 have r3 : w1.cell? ⟨w.heap.size + 1 + 1, 3, none⟩ = some (.slice none 0 0) := bkc hb1
 have r3f : w1.frozen? ⟨w.heap.size + 1 + 1, 3, none⟩ = false := bkcf (v := .slice none 0 0) hb1
 have hB : Below w.heap.size w w1 := bthen bZ hb1
 have hz := hB.size
 clear SG hb1
 go_wp2_with fail
 (with_reducible refine (LC.out _ ?_).mono ?_); (repeat (first|exact bzR _ _|exact hB|refine bzD ?_|refine bzN ?_|refine bzS ?_|refine bzA ?_))
 rintro e w2 ⟨⟨v, rfl, hv⟩, hb2⟩
 have r0 : w2.cell? ⟨w.heap.size + 1 + 1, 0, none⟩ = some (.bool false) := bkc hb2
 have zr0 := cell_lt r0
 have r0f : w2.frozen? ⟨w.heap.size + 1 + 1, 0, none⟩ = false := bkcf (v := .bool false) hb2
 have r1 : w2.cell? ⟨w.heap.size + 1 + 1, 1, none⟩ = some (.slice none 0 0) := bkc hb2
 have r1f : w2.frozen? ⟨w.heap.size + 1 + 1, 1, none⟩ = false := bkcf (v := .slice none 0 0) hb2
 have r2 : w2.cell? ⟨w.heap.size + 1 + 1, 2, none⟩ = some (.bool false) := bkc hb2
 have r2f : w2.frozen? ⟨w.heap.size + 1 + 1, 2, none⟩ = false := bkcf (v := .bool false) hb2
 have r3 : w2.cell? ⟨w.heap.size + 1 + 1, 3, none⟩ = some (.slice none 0 0) := bkc hb2
 have r3f : w2.frozen? ⟨w.heap.size + 1 + 1, 3, none⟩ = false := bkcf (v := .slice none 0 0) hb2
 have hB : Below w.heap.size w w2 := bthen bZ hb2
 have hz := hB.size
 obtain ⟨un, ua, ul, uc, sn, sa, sl, sc, rfl, hu, hs⟩ := hv
 have HU := hZ (hu.put4 r0 r1 r2 r3 (.bool un) (.slice ua ul uc) (.bool sn) (.slice sa sl sc))
 have HS := hZ (hs.put4 r0 r1 r2 r3 (.bool un) (.slice ua ul uc) (.bool sn) (.slice sa sl sc))
 clear hu hs LC n0 n1 d0 d1
 go_wp2
 refine bodyPost_ret (v := .tuple #[.agg #[.bool un, .slice ua ul uc, .bool sn, .slice sa sl sc], .int .i64 0]) (by simp [results, Tryz.results130, go_sem, *]) rfl ⟨⟨_, rfl, _, _, _, _, _, _, _, _, rfl, ?_, ?_⟩, ?_⟩
 · first | exact HU.out | exact HU.out.keep (Below.refl _ _).drew
 · first | exact HS.out | exact HS.out.keep (Below.refl _ _).drew
 ·
  repeat exact bZ
theorem num_c (v : Value) (n d : Int) (w : World) (hv : IsRat w v n d) :
 Calls Tryz.prog 56 #[v] w fun e w' => (∃ u, e = .returned u ∧ IsInt w' u n) ∧ Below w.heap.size w w' := by
 obtain ⟨un, ua, ul, uc, sn, sa, sl, sc, rfl, hu, hs⟩ := hv
 have HU := hZ hu
 clear hu hs
 have hB := Below.refl w.heap.size w
 go_enter Tryz.func56, Tryz.ntmps56
 go_wp2
 refine bodyPost_ret (v := .agg #[.bool un, .slice ua ul uc]) (by simp [results, Tryz.results56, go_sem, *]) rfl ⟨⟨_, rfl, ?_⟩, ?_⟩
 · exact HU.out.keep bZ
 ·
  repeat exact bZ
end
section
open Num
attribute [local go_sem ↓] Go.wp_at_zero Go.wp_at_succ
theorem den_c (v : Value) (n d : Int) (k : Nat) (w : World) (hv : IsRat w v n d) (bd : Bd k (d - 1)) (b1 : Bd k 1) (hk : k ≤ 17179869180) :
 Calls Tryz.prog 127 #[v] w fun e w' => (∃ u, e = .returned u ∧ IsInt w' u d) ∧ Below w.heap.size w w' := by
 obtain ⟨un, ua, ul, uc, sn, sa, sl, sc, rfl, hu, hs⟩ := hv
 have OC := hZ (fun W => of_c 1 W (by decide) (by decide))
 have AC := hZ (fun u W (q : Below w.heap.size w W) (hu : IsInt W u 1) => addI_c _ u (d - 1) 1 k W (hs.keep q) hu bd b1 (by omega))
 rw [show d - 1 + 1 = d by omega] at AC
 clear hu hs bd b1 hk
 have hB := Below.refl w.heap.size w
 go_enter Tryz.func127, Tryz.ntmps127
 go_wp2
 refine wp_name fun w5 hW5 => ?_
 have HB5 := hZ (show Below w.heap.size w w5 by rw [hW5]; repeat (first|exact bzR _ _|exact hB|refine bzD ?_|refine bzN ?_|refine bzS ?_|refine bzA ?_))
 have HC5 := hZ (show w5.cell? ⟨w.heap.size, 2, none⟩ = some (.bool sn) ∧ w5.cell? ⟨w.heap.size, 3, none⟩ = some (.slice sa sl sc) ∧ w5.cell? ⟨w.heap.size + 1, 0, none⟩ = some (.bool false) ∧ w5.cell? ⟨w.heap.size + 1, 1, none⟩ = some (.slice none 0 0) ∧ w5.frozen? ⟨w.heap.size + 1, 0, none⟩ = false ∧ w5.frozen? ⟨w.heap.size + 1, 1, none⟩ = false from by rw [hW5]; simp [go_sem])
 clear hW5 hB
 have HCELL := hZ (show ∀ V, Below w5.heap.size w5 V → V.cell? ⟨w.heap.size, 2, none⟩ = some (.bool sn) ∧ V.cell? ⟨w.heap.size, 3, none⟩ = some (.slice sa sl sc) ∧ V.cell? ⟨w.heap.size + 1, 0, none⟩ = some (.bool false) ∧ V.cell? ⟨w.heap.size + 1, 1, none⟩ = some (.slice none 0 0) ∧ V.frozen? ⟨w.heap.size + 1, 0, none⟩ = false ∧ V.frozen? ⟨w.heap.size + 1, 1, none⟩ = false from fun V q => ⟨bkeep q HC5.out.1, bkeep q HC5.out.2.1, bkeep q HC5.out.2.2.1, bkeep q HC5.out.2.2.2.1, bkeepf q HC5.out.2.2.1 HC5.out.2.2.2.2.1, bkeepf q HC5.out.2.2.2.1 HC5.out.2.2.2.2.2⟩)
 obtain ⟨n0, n1, r0, r1, r0f, r1f⟩ := HC5.out
 have hBw := Below.refl w5.heap.size w5
 go_region_law (go_simp; go_wp2_with (first
  | (go_at_call 45; refine (OC.out _).mono ?_; rintro e w6 ⟨⟨ov, rfl, hov⟩, hb6⟩; (replace hBw : Below w5.heap.size w5 w6 := bthen bZ hb6); have HO := hZ hov; have hy6 := Below.refl w6.heap.size w6; obtain ⟨n0, n1, r0, r1, r0f, r1f⟩ := HCELL.out w6 hBw; obtain ⟨n6, a6, c6, l6, rfl, -⟩ := hov; unfold iv at *)
  | (go_at_call 37; refine (AC.out _ _ (bthen HB5.out ?_) (HO.out.keep ?_)).mono ?_; (repeat (first|exact bzR _ _|exact hBw|refine bzD ?_|refine bzN ?_|refine bzS ?_|refine bzA ?_)); (repeat (first|exact bzR _ _|exact hy6|refine bzD ?_|refine bzN ?_|refine bzS ?_|refine bzA ?_)); rintro e w7 ⟨⟨sv, rfl, hsv⟩, hb7⟩; (replace hBw : Below w5.heap.size w5 w7 := bthen bZ hb7); have HSV := hZ hsv; obtain ⟨n0, n1, r0, r1, r0f, r1f⟩ := HCELL.out w7 hBw; obtain ⟨tn, ta, tl, tc, rfl⟩ := hsv.lit)
  | fail))
 all_goals
  have HS7 := hZ (HSV.out.put2 r0 r1 (.bool tn) (.slice ta tl tc))
  have hBf := bthen HB5.out hBw
  go_wp2
  refine bodyPost_ret (v := .agg #[.bool tn, .slice ta tl tc]) (by simp [results, Tryz.results127, go_sem, *]) rfl ⟨⟨_, rfl, ?_⟩, ?_⟩
  · first | exact HS7.out | exact HS7.out.keep (Below.refl _ _).drew
  ·
   repeat exact bZ
end
section
open Num
theorem infoRat : (Tryz.prog.info? 79).map (fun i => (i.zero, i.size, i.bytes)) = some (some (.agg #[.bool false, .slice none 0 0, .bool false, .slice none 0 0]), 4, 64) := by kernel_rfl
theorem elRat : Elt Tryz.prog 38 79 4 64 := Elt.mk' Tryz.underlying38 infoRat rfl (by decide) (by decide)
end
section
open Num
attribute [local go_sem ↓] Go.wp_at_zero Go.wp_at_succ
def IsQP (w : World) (v : Value) (q : Rat) : Prop := ∃ n1 a1 l1 c1 n2 a2 l2 c2, v = .agg #[.bool n1, .slice a1 l1 c1, .bool n2, .slice a2 l2 c2] ∧ IsInt w (.agg #[.bool n1, .slice a1 l1 c1]) q.num ∧ IsInt w (.agg #[.bool n2, .slice a2 l2 c2]) ((q.den : Int) - 1)
theorem IsQP.rat {w : World} {v : Value} {q : Rat} (h : IsQP w v q) : IsRat w v q.num (q.den : Int) := h
theorem frk_prog : FrK IsQP := ⟨fun k h => by
 obtain ⟨n1, a1, l1, c1, n2, a2, l2, c2, e, h1, h2⟩ := h
 exact ⟨n1, a1, l1, c1, n2, a2, l2, c2, e, h1.lim k, h2.lim k⟩, fun h => by
 obtain ⟨n1, a1, l1, c1, n2, a2, l2, c2, e, h1, h2⟩ := h
 exact ⟨n1, a1, l1, c1, n2, a2, l2, c2, e⟩⟩
theorem IsQP.keep {w w' : World} {v : Value} {q : Rat} (h : IsQP w v q) (k : Below w.heap.size w w') : IsQP w' v q := frk_prog.keep h k
theorem IsQP.zero (w : World) : IsQP w (.agg #[.bool false, .slice none 0 0, .bool false, .slice none 0 0]) 0 := ⟨_, _, _, _, _, _, _, _, rfl, isInt_zero w, isInt_zero w⟩
theorem IsQP.put4 {w : World} {v : Value} {q : Rat} {g : Nat} {b b' : Bool} {a a' : Option Addr} {n c n' c' : Nat} (h : IsQP w v q) (r0 : w.cell? ⟨g, 0, none⟩ = some (.bool b)) (r1 : w.cell? ⟨g, 1, none⟩ = some (.slice a n c)) (r2 : w.cell? ⟨g, 2, none⟩ = some (.bool b')) (r3 : w.cell? ⟨g, 3, none⟩ = some (.slice a' n' c')) (u0 u1 u2 u3 : Value) : IsQP ((((w.setCell ⟨g, 0, none⟩ u0).setCell ⟨g, 1, none⟩ u1).setCell ⟨g, 2, none⟩ u2).setCell ⟨g, 3, none⟩ u3) v q := by
 obtain ⟨n1, a1, l1, c1, n2, a2, l2, c2, e, h1, h2⟩ := h
 exact ⟨n1, a1, l1, c1, n2, a2, l2, c2, e, h1.put4 r0 r1 r2 r3 u0 u1 u2 u3, h2.put4 r0 r1 r2 r3 u0 u1 u2 u3⟩
theorem IsRat.qp {w : World} {v : Value} {n d : Int} (hd : 0 < d) (h : IsRat w v (n / gcdI n d) (d / gcdI n d)) : IsQP w v (Rat.divInt n d) := by
 rw [← dq_num hd, ← dq_den hd] at h
 exact h
theorem pqLow_c (vn vd : Value) (n d : Int) (k : Nat) (w : World) (hn : IsInt w vn n) (hd : IsInt w vd d) (bn : Bd k n) (bd : Bd k d) (hk : k ≤ 17179869180) (h0 : 0 < d) :
 Calls Tryz.prog 126 #[vn, vd] w fun e w' => (∃ v, e = .returned v ∧ IsQP w' v (Rat.divInt n d)) ∧ Below w.heap.size w w' :=
 (lowest_c vn vd n d k w hn hd bn bd hk (by omega)).mono fun e w' ⟨⟨v, h1, h2⟩, hb⟩ => ⟨⟨v, h1, h2.qp h0⟩, hb⟩
theorem bd_den {k : Nat} {q : Rat} (h : BdQ k q) : Bd k ((q.den : Int) - 1) ∧ Bd k 1 := by
 have h1 := den_pos q
 have h2 := h.2
 unfold Bd at *
 have : (1 : Int).natAbs = 1 := rfl
 omega
theorem pqDen_c (v : Value) (q : Rat) (k : Nat) (w : World) (hv : IsQP w v q) (bq : BdQ k q) (hk : k ≤ 17179869180) :
 Calls Tryz.prog 127 #[v] w fun e w' => (∃ u, e = .returned u ∧ IsInt w' u (q.den : Int)) ∧ Below w.heap.size w w' :=
 den_c v q.num q.den k w hv.rat (bd_den bq).1 (bd_den bq).2 hk
theorem pqNum_c (v : Value) (q : Rat) (w : World) (hv : IsQP w v q) :
 Calls Tryz.prog 56 #[v] w fun e w' => (∃ u, e = .returned u ∧ IsInt w' u q.num) ∧ Below w.heap.size w w' := num_c v q.num q.den w hv.rat
def MkPost (n d : Int) (w : World) (e : Ending) (w' : World) : Prop := (∃ v, e = .returned (.tuple #[v, .int .i64 0]) ∧ IsQP w' v (Rat.divInt n d)) ∧ Below w.heap.size w w'
theorem pqMake_c (vn vd : Value) (n d : Int) (k : Nat) (w : World) (hn : IsInt w vn n) (hd : IsInt w vd d) (bn : Bd k n) (bd : Bd k d) (hk9 : k ≤ 17179869180) (h0 : d ≠ 0) :
 Calls Tryz.prog 130 #[vn, vd] w (MkPost n d w) := by
 rcases Int.lt_or_lt_of_ne h0 with hdn | hd0
 rotate_left
 · exact (makePos_c vn vd n d k w hn hd bn bd hk9 hd0).mono fun e w' ⟨⟨v, h1, h2⟩, hb⟩ => ⟨⟨v, h1, h2.qp hd0⟩, hb⟩
 have SC := hZ (fun V (q : Below w.heap.size w V) => sign_c vd d V (hd.keep q))
 rw [Int.sign_eq_neg_one_of_neg hdn] at SC
 have NC := hZ (fun V (q : Below w.heap.size w V) => neg_c vn n V (hn.keep q))
 have DC := hZ (fun V (q : Below w.heap.size w V) => neg_c vd d V (hd.keep q))
 have LC := hZ (show ∀ u v V, IsInt V u (-n) → IsInt V v (-d) → Calls Tryz.prog 126 #[u, v] V (fun e w' => (∃ v, e = .returned v ∧ IsQP w' v (Rat.divInt n d)) ∧ Below V.heap.size V w') from fun u v V hu hv => by rw [divInt_swap hdn]; exact pqLow_c u v (-n) (-d) k V hu hv bn.neg bd.neg hk9 (by omega))
 unfold MkPost
 obtain ⟨q, hq⟩ : ∃ q, Rat.divInt n d = q := ⟨_, rfl⟩
 rw [hq] at LC ⊢
 obtain ⟨nn, na, nl, nc, rfl⟩ := hn.lit
 obtain ⟨dn, da, dl, dc, rfl⟩ := hd.lit
 clear hn hd bn bd h0 hdn hq hk9
 have hB := Below.refl w.heap.size w
 go_enter Tryz.func130, Tryz.ntmps130
 go_wp2_with fail
 (with_reducible refine (SC.out _ ?_).mono ?_); (repeat (first|exact bzR _ _|exact hB|refine bzD ?_|refine bzN ?_|refine bzS ?_|refine bzA ?_))
 rintro e w1 ⟨rfl, hb1⟩
 have n0 : w1.cell? ⟨w.heap.size, 0, none⟩ = some (.bool nn) := bkc hb1
 have zn0 := cell_lt n0
 have n0f : w1.frozen? ⟨w.heap.size, 0, none⟩ = false := bkcf (v := .bool nn) hb1
 have n1 : w1.cell? ⟨w.heap.size, 1, none⟩ = some (.slice na nl nc) := bkc hb1
 have n1f : w1.frozen? ⟨w.heap.size, 1, none⟩ = false := bkcf (v := .slice na nl nc) hb1
 have d0 : w1.cell? ⟨w.heap.size + 1, 0, none⟩ = some (.bool dn) := bkc hb1
 have zd0 := cell_lt d0
 have d0f : w1.frozen? ⟨w.heap.size + 1, 0, none⟩ = false := bkcf (v := .bool dn) hb1
 have d1 : w1.cell? ⟨w.heap.size + 1, 1, none⟩ = some (.slice da dl dc) := bkc hb1
 have d1f : w1.frozen? ⟨w.heap.size + 1, 1, none⟩ = false := bkcf (v := .slice da dl dc) hb1
 have r0 : w1.cell? ⟨w.heap.size + 1 + 1, 0, none⟩ = some (.bool false) := bkc hb1
 have zr0 := cell_lt r0
 have r0f : w1.frozen? ⟨w.heap.size + 1 + 1, 0, none⟩ = false := bkcf (v := .bool false) hb1
 have r1 : w1.cell? ⟨w.heap.size + 1 + 1, 1, none⟩ = some (.slice none 0 0) := bkc hb1
 have r1f : w1.frozen? ⟨w.heap.size + 1 + 1, 1, none⟩ = false := bkcf (v := .slice none 0 0) hb1
 have r2 : w1.cell? ⟨w.heap.size + 1 + 1, 2, none⟩ = some (.bool false) := bkc hb1
 have r2f : w1.frozen? ⟨w.heap.size + 1 + 1, 2, none⟩ = false := bkcf (v := .bool false) hb1
 have r3 : w1.cell? ⟨w.heap.size + 1 + 1, 3, none⟩ = some (.slice none 0 0) := bkc hb1
 have r3f : w1.frozen? ⟨w.heap.size + 1 + 1, 3, none⟩ = false := bkcf (v := .slice none 0 0) hb1
 have hB : Below w.heap.size w w1 := bthen bZ hb1
 have hz := hB.size
 have hBw := Below.refl w1.heap.size w1
 have HBB := hZ hB
 have HS := hZ (show ∀ V, Below w1.heap.size w1 V → (V.cell? ⟨w.heap.size, 0, none⟩ = some (.bool nn) ∧ V.cell? ⟨w.heap.size, 1, none⟩ = some (.slice na nl nc) ∧ V.cell? ⟨w.heap.size + 1, 0, none⟩ = some (.bool dn) ∧ V.cell? ⟨w.heap.size + 1, 1, none⟩ = some (.slice da dl dc)) ∧ (V.frozen? ⟨w.heap.size, 0, none⟩ = false ∧ V.frozen? ⟨w.heap.size, 1, none⟩ = false ∧ V.frozen? ⟨w.heap.size + 1, 0, none⟩ = false ∧ V.frozen? ⟨w.heap.size + 1, 1, none⟩ = false) ∧ (V.cell? ⟨w.heap.size + 1 + 1, 0, none⟩ = some (.bool false) ∧ V.cell? ⟨w.heap.size + 1 + 1, 1, none⟩ = some (.slice none 0 0) ∧ V.cell? ⟨w.heap.size + 1 + 1, 2, none⟩ = some (.bool false) ∧ V.cell? ⟨w.heap.size + 1 + 1, 3, none⟩ = some (.slice none 0 0)) ∧ (V.frozen? ⟨w.heap.size + 1 + 1, 0, none⟩ = false ∧ V.frozen? ⟨w.heap.size + 1 + 1, 1, none⟩ = false ∧ V.frozen? ⟨w.heap.size + 1 + 1, 2, none⟩ = false ∧ V.frozen? ⟨w.heap.size + 1 + 1, 3, none⟩ = false) from fun V q => ⟨⟨bkeep q n0, bkeep q n1, bkeep q d0, bkeep q d1⟩, ⟨bkeepf q n0 n0f, bkeepf q n1 n1f, bkeepf q d0 d0f, bkeepf q d1 d1f⟩, ⟨bkeep q r0, bkeep q r1, bkeep q r2, bkeep q r3⟩, ⟨bkeepf q r0 r0f, bkeepf q r1 r1f, bkeepf q r2 r2f, bkeepf q r3 r3f⟩⟩)
 have zr := cell_lt r0
 clear SC hb1
 go_upto_region 5 with (fail)
 go_region_law (go_simp; go_wp2_with (first
  | (go_at_call 160; (with_reducible show Calls _ _ #[.agg #[.bool nn, .slice na nl nc]] _ _); (with_reducible refine (NC.out _ (bthen HBB.out ?_)).mono ?_); (repeat (first|exact bzR _ _|exact hBw|refine bzD ?_|refine bzN ?_|refine bzS ?_|refine bzA ?_)); rintro e w2 ⟨⟨u2, rfl, hu2⟩, hb2⟩; (replace hBw : Below w1.heap.size w1 w2 := bthen bZ hb2); obtain ⟨⟨n0, n1, d0, d1⟩, ⟨n0f, n1f, d0f, d1f⟩, -, -⟩ := HS.out w2 hBw; have HU2 := hZ hu2; have hy2 := Below.refl w2.heap.size w2; obtain ⟨pn, pa, pl, pc, rfl⟩ := hu2.lit)
  | (go_at_call 160; (with_reducible refine (DC.out _ (bthen HBB.out ?_)).mono ?_); (repeat (first|exact bzR _ _|exact hBw|refine bzD ?_|refine bzN ?_|refine bzS ?_|refine bzA ?_)); rintro e w3 ⟨⟨u3, rfl, hu3⟩, hb3⟩; (replace hBw : Below w1.heap.size w1 w3 := bthen bZ hb3); obtain ⟨⟨n0, n1, d0, d1⟩, ⟨n0f, n1f, d0f, d1f⟩, ⟨r0, r1, r2, r3⟩, ⟨r0f, r1f, r2f, r3f⟩⟩ := HS.out w3 hBw; have HU3 := hZ hu3; (replace hy2 : Below w2.heap.size w2 w3 := bthen bZ hb3); obtain ⟨sn, sa, sl, sc, rfl⟩ := hu3.lit)
  | fail))
 all_goals
  go_upto_region 6 with (fail)
  refine wp_name fun w9 hW9 => ?_
  have HN := hZ (show IsInt w9 (.agg #[.bool pn, .slice pa pl pc]) (-n) from by rw [hW9]; exact ((HU2.out.keep hy2).put2 n0 n1 _ _).put2 (cell_far (cell_far d0 (by simp) _) (by simp) _) (cell_far (cell_far d1 (by simp) _) (by simp) _) _ _)
  have HD := hZ (show IsInt w9 (.agg #[.bool sn, .slice sa sl sc]) (-d) from by rw [hW9]; exact (HU3.out.put2 n0 n1 _ _).put2 (cell_far (cell_far d0 (by simp) _) (by simp) _) (cell_far (cell_far d1 (by simp) _) (by simp) _) _ _)
  have n0q : w9.cell? ⟨w.heap.size, 0, none⟩ = some (.bool pn) := by rw [hW9]; exact cell_far (cell_far (cell_far (cell_here n0 _) (by simp) _) (by simp) _) (by simp) _
  have n1q : w9.cell? ⟨w.heap.size, 1, none⟩ = some (.slice pa pl pc) := by rw [hW9]; exact cell_far (cell_far (cell_here (cell_far n1 (by simp) _) _) (by simp) _) (by simp) _
  have d0q : w9.cell? ⟨w.heap.size + 1, 0, none⟩ = some (.bool sn) := by rw [hW9]; exact cell_far (cell_here (cell_far (cell_far d0 (by simp) _) (by simp) _) _) (by simp) _
  have d1q : w9.cell? ⟨w.heap.size + 1, 1, none⟩ = some (.slice sa sl sc) := by rw [hW9]; exact cell_here (cell_far (cell_far (cell_far d1 (by simp) _) (by simp) _) (by simp) _) _
  have f4 : ∀ p, w3.frozen? p = false → w9.frozen? p = false := fun p h => by rw [hW9, World.frozen?_setCell, World.frozen?_setCell, World.frozen?_setCell, World.frozen?_setCell]; exact h
  have c4 : ∀ i u, w3.cell? ⟨w.heap.size + 1 + 1, i, none⟩ = some u → w9.cell? ⟨w.heap.size + 1 + 1, i, none⟩ = some u := fun i u h => by rw [hW9]; exact cell_far (cell_far (cell_far (cell_far h (by simp <;> omega) _) (by simp <;> omega) _) (by simp <;> omega) _) (by simp <;> omega) _
  have r0q := c4 _ _ r0
  have r1q := c4 _ _ r1
  have r2q := c4 _ _ r2
  have r3q := c4 _ _ r3
  have r0qf := f4 _ r0f
  have r1qf := f4 _ r1f
  have r2qf := f4 _ r2f
  have r3qf := f4 _ r3f
  have hBn : Below w.heap.size w w9 := by rw [hW9]; exact bset (bset (bset (bset (bthen HBB.out hBw) (Nat.le_refl _) _) (Nat.le_refl _) _) (Nat.le_succ _) _) (Nat.le_succ _) _
  have hBw9 := Below.refl w9.heap.size w9
  have LC9 := hZ (fun V (q : Below w9.heap.size w9 V) => LC.out _ _ V (HN.out.keep q) (HD.out.keep q))
  clear hW9 hB hBw HBB f4 c4 n0 n1 d0 d1 r0 r1 r2 r3 n0f n1f d0f d1f r0f r1f r2f r3f HU2 HU3 NC DC HS hy2 zr HN HD LC
  have zn := cell_lt n0q
  have zd := cell_lt d0q
  have zr := cell_lt r0q
  go_wp2_with fail
  (with_reducible refine (LC9.out _ ?_).mono ?_); (repeat (first|exact bzR _ _|exact hBw9|refine bzD ?_|refine bzN ?_|refine bzS ?_|refine bzA ?_))
  rintro e w10 ⟨⟨v10, rfl, hv10⟩, hb10⟩
  have hk : Below w9.heap.size w9 w10 := bthen bZ hb10
  have HV := hZ hv10
  have r0 := bkeep hk r0q
  have r1 := bkeep hk r1q
  have r2 := bkeep hk r2q
  have r3 := bkeep hk r3q
  have r0f := bkeepf hk r0q r0qf
  have r1f := bkeepf hk r1q r1qf
  have r2f := bkeepf hk r2q r2qf
  have r3f := bkeepf hk r3q r3qf
  have zr2 := cell_lt r0
  have hBf := bthen hBn hk
  obtain ⟨m1, b1, k1, d1, m2, b2, k2, d2, rfl, -, -⟩ := hv10
  have HQ := hZ (IsQP.put4 HV.out r0 r1 r2 r3 (.bool m1) (.slice b1 k1 d1) (.bool m2) (.slice b2 k2 d2))
  clear LC9 hb10 hk HV n0q n1q d0q d1q r0q r1q r2q r3q r0qf r1qf r2qf r3qf zn zd zr hBn hBw9
  go_wp2
  refine bodyPost_ret (v := .tuple #[.agg #[.bool m1, .slice b1 k1 d1, .bool m2, .slice b2 k2 d2], .int .i64 0]) (by simp [results, Tryz.results130, go_sem, *]) rfl ⟨⟨_, rfl, ?_⟩, ?_⟩
  · exact HQ.out
  ·
   repeat exact bZ
end
end Go.Proofs.YtbmaffijncapiaaGreatDoor
