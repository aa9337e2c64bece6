/- Texts of this seat, laid together: MiB, RaA, RaB, RaC. Each opens with its own remark, which says what it proves, and under which conditions. -/
import Derived.Test.YthaohpfbengabaaGreatDoorV25
import Derived.Test.YthaohpfbengabaaGreatDoorV22
import Derived.Test.YthaohpfbengabaaGreatDoorV19
import Derived.Test.YthaohpfbengabaaGreatDoorV10
import Derived.Test.YthaohpfbengabaaGreatDoorV05
import Derived.Deep.DeepCutAuto
set_option linter.unusedVariables false
set_option linter.unusedSimpArgs false
/- matrices, plain: the adjugate, the inverse, what divides all its numbers. -/
namespace Go.Proofs.YthaohpfbengabaaGreatDoor
open Num
set_option linter.unusedVariables false
set_option linter.unusedSimpArgs false
theorem gcd_dvdL (x y : Int) : gcdI x y ∣ x := Int.gcd_dvd_left (a := x) (b := y)
theorem gcd_dvdR (x y : Int) : gcdI x y ∣ y := Int.gcd_dvd_right (a := x) (b := y)
theorem dvd_gcd {e x y : Int} (h1 : e ∣ x) (h2 : e ∣ y) : e ∣ gcdI x y := Int.dvd_coe_gcd h1 h2
theorem fold_dvd : ∀ (l : List Int) (c : Int), l.foldl gcdI c ∣ c ∧ ∀ x ∈ l, l.foldl gcdI c ∣ x
  | [], c => ⟨Int.dvd_refl c, fun x h => by simp at h⟩
  | y :: l, c => by
    obtain ⟨h1, h2⟩ := fold_dvd l (gcdI c y)
    refine ⟨Int.dvd_trans h1 (gcd_dvdL c y), fun x hx => ?_⟩
    rcases List.mem_cons.1 hx with rfl | hx
    · exact Int.dvd_trans h1 (gcd_dvdR c x)
    · exact h2 x hx
theorem dvd_fold {e : Int} : ∀ (l : List Int) (c : Int), e ∣ c → (∀ x ∈ l, e ∣ x) → e ∣ l.foldl gcdI c
  | [], c, h, _ => h
  | y :: l, c, h, hl => dvd_fold l (gcdI c y) (dvd_gcd h (hl y (List.mem_cons_self ..))) fun x hx => hl x (List.mem_cons_of_mem _ hx)
theorem com_dvd : ∀ (a : Grid) (c : Int), comG c a ∣ c ∧ ∀ r ∈ a, ∀ x ∈ r, comG c a ∣ x
  | [], c => ⟨Int.dvd_refl c, fun r h => by simp at h⟩
  | y :: a, c => by
    obtain ⟨h1, h2⟩ := com_dvd a (gcdI c (contL y))
    refine ⟨Int.dvd_trans h1 (gcd_dvdL c _), fun r hr x hx => ?_⟩
    rcases List.mem_cons.1 hr with rfl | hr
    · exact Int.dvd_trans (Int.dvd_trans h1 (gcd_dvdR c _)) ((fold_dvd r 0).2 x hx)
    · exact h2 r hr x hx
theorem dvd_com {e : Int} : ∀ (a : Grid) (c : Int), e ∣ c → (∀ r ∈ a, ∀ x ∈ r, e ∣ x) → e ∣ comG c a
  | [], c, h, _ => h
  | y :: a, c, h, ha => dvd_com a (gcdI c (contL y)) (dvd_gcd h (dvd_fold y 0 (Int.dvd_zero e) (ha y (List.mem_cons_self ..)))) fun r hr => ha r (List.mem_cons_of_mem _ hr)
theorem com_nn : ∀ (a : Grid) (c : Int), 0 ≤ c → 0 ≤ comG c a
  | [], c, h => h
  | y :: a, c, _ => com_nn a (gcdI c (contL y)) (Int.natCast_nonneg _)
/-- what MatrixInverse folds: the common divisor of a number and of all of a matrix -/
def allG (c : Int) (a : Grid) : Int := a.foldl (fun c r => r.foldl gcdI c) c
theorem all_dvd : ∀ (a : Grid) (c : Int), allG c a ∣ c ∧ ∀ r ∈ a, ∀ x ∈ r, allG c a ∣ x
  | [], c => ⟨Int.dvd_refl c, fun r h => by simp at h⟩
  | y :: a, c => by
    obtain ⟨h1, h2⟩ := all_dvd a (y.foldl gcdI c)
    refine ⟨Int.dvd_trans h1 (fold_dvd y c).1, fun r hr x hx => ?_⟩
    rcases List.mem_cons.1 hr with rfl | hr
    · exact Int.dvd_trans h1 ((fold_dvd r c).2 x hx)
    · exact h2 r hr x hx
theorem fold_nn : ∀ (l : List Int) (c : Int), 0 ≤ c → 0 ≤ l.foldl gcdI c
  | [], c, h => h
  | y :: l, c, _ => fold_nn l (gcdI c y) (Int.natCast_nonneg _)
theorem all_nn : ∀ (a : Grid) (c : Int), 0 ≤ c → 0 ≤ allG c a
  | [], c, h => h
  | y :: a, c, h => all_nn a (y.foldl gcdI c) (fold_nn y c h)
theorem gat_mem {g : Grid} {i j : Nat} (hi : i < g.length) (hj : j < (g.getD i []).length) : ∃ r ∈ g, gat g i j ∈ r := by
  refine ⟨g.getD i [], ?_, ?_⟩
  · rw [List.getD_eq_getElem?_getD, List.getElem?_eq_getElem hi]; exact List.getElem_mem _
  · unfold gat
    rw [List.getD_eq_getElem?_getD (l := g.getD i []), List.getElem?_eq_getElem hj]; exact List.getElem_mem _
theorem mem_gat {n m : Nat} {f : Nat → Nat → Int} {r : List Int} {x : Int} (hr : r ∈ tab n m f) (hx : x ∈ r) : ∃ i j, i < n ∧ j < m ∧ x = f i j := by
  unfold tab at hr
  obtain ⟨i, hi, rfl⟩ := List.mem_map.1 hr
  obtain ⟨j, hj, rfl⟩ := List.mem_map.1 hx
  exact ⟨i, j, List.mem_range.1 hi, List.mem_range.1 hj, rfl⟩
section
variable {g : Grid} {n : Nat}
theorem adj_gat {i j : Nat} (hi : i < g.length) (hj : j < g.length) : gat (adjG g) i j = Det.iadj g.length (gat g) i j := tab_gat hi hj
theorem adj_cols (h : 0 < g.length) : cols (adjG g) = g.length := tab_cols _ h
theorem id_gat {i j : Nat} (hi : i < n) (hj : j < n) : gat (idG n) i j = if i = j then 1 else 0 := tab_gat hi hj
theorem scale_id (d : Int) : scaleG (idG n) d = tab n n fun i j => if i = j then d else 0 := by
  by_cases h : 0 < n
  · unfold scaleG
    rw [idG_len, idG_cols h]
    refine tab_congr fun i j hi hj => ?_
    rw [id_gat hi hj]
    split <;> omega
  · obtain rfl : n = 0 := by omega
    rfl
theorem mul_adjG (hs : g.length = cols g) (hp : 0 < g.length) : timesG g (adjG g) = scaleG (idG g.length) (Det.detE g.length (gat g)) := by
  rw [scale_id]
  unfold timesG
  rw [adj_cols hp, ← hs]
  refine tab_congr fun i j hi hj => ?_
  rw [← Det.mul_iadj hi hj]
  exact Det.isum_congr fun t ht => by rw [adj_gat ht hj]
theorem adj_mulG (hs : g.length = cols g) (hp : 0 < g.length) : timesG (adjG g) g = scaleG (idG g.length) (Det.detE g.length (gat g)) := by
  rw [scale_id]
  unfold timesG
  rw [adj_cols hp, adj_len, ← hs]
  refine tab_congr fun i j hi hj => ?_
  rw [← Det.iadj_mul hi hj]
  exact Det.isum_congr fun t ht => by rw [adj_gat hi ht]
theorem invS_abs : (invS g).natAbs = (comG (Det.detE g.length (gat g)) (adjG g)).natAbs := by
  unfold invS; split
  · rw [Int.natAbs_neg]
  · rfl
theorem invS_dvd {e : Int} : invS g ∣ e ↔ comG (Det.detE g.length (gat g)) (adjG g) ∣ e := by
  rw [← Int.natAbs_dvd, invS_abs, Int.natAbs_dvd]
theorem invS_det : invS g ∣ Det.detE g.length (gat g) := invS_dvd.2 (com_dvd _ _).1
theorem invS_adj {i j : Nat} (hi : i < g.length) (hj : j < g.length) : invS g ∣ gat (adjG g) i j := by
  obtain ⟨r, hr, hx⟩ := gat_mem (g := adjG g) (i := i) (j := j) (by rw [adj_len]; exact hi) (by rw [show ((adjG g).getD i []).length = g.length from tab_rowlen hi]; exact hj)
  exact invS_dvd.2 ((com_dvd (adjG g) _).2 r hr _ hx)
theorem com_nz {a : Grid} {d : Int} (h : d ≠ 0) : comG d a ≠ 0 := fun e => by
  have := (com_dvd a d).1
  rw [e] at this
  exact h (Int.zero_dvd.1 this)
theorem invS_nz (h : Det.detE g.length (gat g) ≠ 0) : invS g ≠ 0 := fun e => by
  have h1 := invS_abs (g := g)
  rw [e] at h1
  exact com_nz h (Int.natAbs_eq_zero.1 h1.symm)
theorem invD_mul : invS g * invD g = Det.detE g.length (gat g) := Int.mul_ediv_cancel' invS_det
theorem inv_gat {i j : Nat} (hi : i < g.length) (hj : j < g.length) : invS g * gat (invG g) i j = gat (adjG g) i j := by
  rw [show gat (invG g) i j = gat (adjG g) i j / invS g from tab_gat hi hj]
  exact Int.mul_ediv_cancel' (invS_adj hi hj)
theorem inv_len : (invG g).length = g.length := tab_len _ _ _
theorem inv_cols (h : 0 < g.length) : cols (invG g) = g.length := tab_cols _ h
theorem mul_invG (hs : g.length = cols g) (hp : 0 < g.length) (hd : Det.detE g.length (gat g) ≠ 0) : timesG g (invG g) = scaleG (idG g.length) (invD g) := by
  rw [scale_id]
  unfold timesG
  rw [inv_cols hp, ← hs]
  refine tab_congr fun i j hi hj => ?_
  refine Int.eq_of_mul_eq_mul_left (invS_nz hd) ?_
  rw [← isum_mulL]
  have e1 : Det.isum g.length (fun t => invS g * (gat g i t * gat (invG g) t j)) = Det.isum g.length fun t => gat g i t * gat (adjG g) t j :=
    Det.isum_congr fun t ht => by rw [← inv_gat ht hj, Int.mul_left_comm]
  have e2 : Det.isum g.length (fun t => gat g i t * gat (adjG g) t j) = Det.imul g.length (gat g) (Det.iadj g.length (gat g)) i j :=
    Det.isum_congr fun t ht => by rw [adj_gat ht hj]
  rw [e1, e2, Det.mul_iadj hi hj]
  split
  · exact invD_mul.symm
  · rw [Int.mul_zero]
theorem inv_mulG (hs : g.length = cols g) (hp : 0 < g.length) (hd : Det.detE g.length (gat g) ≠ 0) : timesG (invG g) g = scaleG (idG g.length) (invD g) := by
  rw [scale_id]
  unfold timesG
  rw [inv_cols hp, inv_len, ← hs]
  refine tab_congr fun i j hi hj => ?_
  refine Int.eq_of_mul_eq_mul_left (invS_nz hd) ?_
  rw [← isum_mulL]
  have e1 : Det.isum g.length (fun t => invS g * (gat (invG g) i t * gat g t j)) = Det.isum g.length fun t => gat (adjG g) i t * gat g t j :=
    Det.isum_congr fun t ht => by rw [← inv_gat hi ht, Int.mul_assoc]
  have e2 : Det.isum g.length (fun t => gat (adjG g) i t * gat g t j) = Det.imul g.length (Det.iadj g.length (gat g)) (gat g) i j :=
    Det.isum_congr fun t ht => by rw [adj_gat hi ht]
  rw [e1, e2, Det.iadj_mul hi hj]
  split
  · exact invD_mul.symm
  · rw [Int.mul_zero]
theorem invD_pos (hd : Det.detE g.length (gat g) ≠ 0) : 0 < invD g := by
  have hc : 0 < (comG (Det.detE g.length (gat g)) (adjG g)).natAbs := by
    have := com_nz (a := adjG g) hd; omega
  have h1 := invD_mul (g := g)
  by_cases hn : Det.detE g.length (gat g) < 0
  · have h2 : invS g < 0 := by
      unfold invS; rw [if_pos hn]
      have hcn : adjG g ≠ [] := fun e => by
        have h0 : g.length = 0 := by rw [← adj_len g, e]; rfl
        have : Det.detE g.length (gat g) = 1 := by rw [h0]; rfl
        omega
      have h3 : 0 ≤ comG (Det.detE g.length (gat g)) (adjG g) := by
        cases h : adjG g with
        | nil => exact absurd h hcn
        | cons y a => exact com_nn a _ (Int.natCast_nonneg _)
      omega
    rcases Int.lt_trichotomy 0 (invD g) with h | h | h
    · exact h
    · rw [← h, Int.mul_zero] at h1; exact absurd h1.symm hd
    · have := Int.mul_pos_of_neg_of_neg h2 h; omega
  · have h2 : 0 < invS g := by
      unfold invS; rw [if_neg hn]
      have h3 : 0 ≤ comG (Det.detE g.length (gat g)) (adjG g) := com_nn _ _ (by omega)
      omega
    rcases Int.lt_trichotomy 0 (invD g) with h | h | h
    · exact h
    · rw [← h, Int.mul_zero] at h1; exact absurd h1.symm hd
    · have := Int.mul_neg_of_pos_of_neg h2 h; omega
/-- no number divides all -/
theorem inv_common (hd : Det.detE g.length (gat g) ≠ 0) : allG (invD g) (invG g) = 1 := by
  obtain ⟨h1, h2⟩ := all_dvd (invG g) (invD g)
  have hk := invD_pos hd
  have hnn := all_nn (invG g) (invD g) (by omega)
  obtain ⟨e, he⟩ : ∃ e, allG (invD g) (invG g) = e := ⟨_, rfl⟩
  rw [he] at h1 h2 hnn ⊢
  have hdv : invS g * e ∣ comG (Det.detE g.length (gat g)) (adjG g) := by
    refine dvd_com _ _ ?_ fun r hr x hx => ?_
    · rw [← invD_mul]; exact Int.mul_dvd_mul_left _ h1
    · obtain ⟨i, j, hi, hj, rfl⟩ := mem_gat hr hx
      have e1 : Det.iadj g.length (gat g) i j = invS g * gat (invG g) i j := by rw [inv_gat hi hj, adj_gat hi hj]
      rw [e1]
      obtain ⟨r2, hr2, hx2⟩ := gat_mem (g := invG g) (i := i) (j := j) (by rw [inv_len]; exact hi) (by rw [show ((invG g).getD i []).length = g.length from tab_rowlen hi]; exact hj)
      exact Int.mul_dvd_mul_left _ (h2 r2 hr2 _ hx2)
  have h3 : invS g * e ∣ invS g := by
    rw [← Int.dvd_natAbs, invS_abs, Int.dvd_natAbs]; exact hdv
  obtain ⟨q, hq⟩ := h3
  have h4 : e * q = 1 := by
    refine Int.eq_of_mul_eq_mul_left (invS_nz hd) ?_
    rw [← Int.mul_assoc, ← hq, Int.mul_one]
  exact Int.eq_one_of_mul_eq_one_right hnn h4
end
end Go.Proofs.YthaohpfbengabaaGreatDoor

/- ratio: lowest, Make, Num, Den. -/
namespace Go.Proofs.YthaohpfbengabaaGreatDoor
open Num
open Go.ChangeShapes Go.WideShapes Go.ChangeAt Go.RowKit
set_option linter.unusedVariables false
set_option linter.unusedSimpArgs false
attribute [local go_sem ↓] Go.wp_at_zero Go.wp_at_succ
/-- a fraction in memory: what stands above, what stands below -/
def IsRat (w : World) (v : Value) (n d : Int) : Prop := ∃ n1 a1 l1 c1 n2 a2 l2 c2, v = .agg #[.bool n1, .slice a1 l1 c1, .bool n2, .slice a2 l2 c2] ∧ IsInt w (.agg #[.bool n1, .slice a1 l1 c1]) n ∧ IsInt w (.agg #[.bool n2, .slice a2 l2 c2]) (d - 1)
theorem IsRat.keep {w w' : World} {v : Value} {n d : Int} (h : IsRat w v n d) (k : Below w.heap.size w w') : IsRat w' v n d := by
  obtain ⟨n1, a1, l1, c1, n2, a2, l2, c2, e, h1, h2⟩ := h
  exact ⟨n1, a1, l1, c1, n2, a2, l2, c2, e, h1.keep k, h2.keep k⟩
theorem IsInt.lit {w : World} {v : Value} {z : Int} (h : IsInt w v z) : ∃ n a l c, v = .agg #[.bool n, .slice a l c] := by
  obtain ⟨n, a, c, l, rfl, -⟩ := h
  exact ⟨n, a, l.length, c, rfl⟩
theorem bd_one {k : Nat} {d : Int} (h : Bd k d) (h0 : d ≠ 0) : Bd k 1 := by unfold Bd at *; have : (1 : Int).natAbs = 1 := rfl; omega
theorem bd_quot {k : Nat} {d G : Int} (h : Bd k d) (hd : G ∣ d) (h0 : G ≠ 0) : Bd k (d / G) := by
  obtain ⟨q, rfl⟩ := hd
  rw [Int.mul_ediv_cancel_left _ h0]
  unfold Bd at *
  rw [Int.natAbs_mul] at h
  have h1 : 1 ≤ G.natAbs := by omega
  have h2 := Nat.mul_le_mul_right q.natAbs h1
  omega
theorem IsInt.put4 {w : World} {x : Value} {z : Int} {g : Nat} {b b' : Bool} {a a' : Option Addr} {n c n' c' : Nat} (h : IsInt w x z) (r0 : w.cell? ⟨g, 0, none⟩ = some (.bool b)) (r1 : w.cell? ⟨g, 1, none⟩ = some (.slice a n c)) (r2 : w.cell? ⟨g, 2, none⟩ = some (.bool b')) (r3 : w.cell? ⟨g, 3, none⟩ = some (.slice a' n' c')) (u0 u1 u2 u3 : Value) : IsInt ((((w.setCell ⟨g, 0, none⟩ u0).setCell ⟨g, 1, none⟩ u1).setCell ⟨g, 2, none⟩ u2).setCell ⟨g, 3, none⟩ u3) x z :=
  (((h.put r0 (fun _ e => by cases e) u0).put (cell_far r1 (by simp) u0) (fun _ e => by cases e) u1).put (cell_far (cell_far r2 (by simp) u0) (by simp) u1) (fun _ e => by cases e) u2).put (cell_far (cell_far (cell_far r3 (by simp) u0) (by simp) u1) (by simp) u2) (fun _ e => by cases e) u3
section
variable {w : World} {g b i : Nat} {u v x : Value}
theorem put2_keep (h : w.cell? ⟨b, i, none⟩ = some x) (hne : b ≠ g) : ((w.setCell ⟨g, 0, none⟩ u).setCell ⟨g, 1, none⟩ v).cell? ⟨b, i, none⟩ = some x :=
  cell_far (cell_far h (fun e => hne (congrArg Addr.block e).symm) _) (fun e => hne (congrArg Addr.block e).symm) _
theorem put2_0 (h : w.cell? ⟨g, 0, none⟩ = some x) : ((w.setCell ⟨g, 0, none⟩ u).setCell ⟨g, 1, none⟩ v).cell? ⟨g, 0, none⟩ = some u := cell_far (cell_here h u) (by simp) v
theorem put2_1 (h : w.cell? ⟨g, 1, none⟩ = some x) : ((w.setCell ⟨g, 0, none⟩ u).setCell ⟨g, 1, none⟩ v).cell? ⟨g, 1, none⟩ = some v := cell_here (cell_far h (by simp) u) v
theorem put2_f {a : Addr} (h : w.frozen? a = false) : ((w.setCell ⟨g, 0, none⟩ u).setCell ⟨g, 1, none⟩ v).frozen? a = false := by rw [World.frozen?_setCell, World.frozen?_setCell]; exact h
end
set_option maxRecDepth 100000 in
set_option maxHeartbeats 8000000 in
theorem lowest_c (vn vd : Value) (n d : Int) (k : Nat) (w : World) (hn : IsInt w vn n) (hd : IsInt w vd d) (bn : Bd k n) (bd : Bd k d) (hk : k ≤ 17179869180) (h0 : d ≠ 0) :
    Calls Tryz.prog 149 #[vn, vd] w fun e w' => (∃ v, e = .returned v ∧ IsRat w' v (n / gcdI n d) (d / gcdI n d)) ∧ Below w.heap.size w w' := by
  have HN := Lib.hid hn
  have HD := Lib.hid hd
  have GC := Lib.hid (fun W (q : Below w.heap.size w W) => gcdI_c vn vd n d k W (hn.keep q) (hd.keep q) bn bd (by omega))
  obtain ⟨nn, na, nl, nc, rfl⟩ := hn.lit
  obtain ⟨dn, da, dl, dc, rfl⟩ := hd.lit
  have hG0 : gcdI n d ≠ 0 := fun e => h0 (by
    have := gcd_dvdR n d
    rw [e] at this
    exact Int.zero_dvd.1 this)
  have bG : Bd k (gcdI n d) := gcdI_bd bn bd
  obtain ⟨G, hG⟩ : ∃ G, gcdI n d = G := ⟨_, rfl⟩
  rw [hG] at GC hG0 bG ⊢
  have HBD := Lib.hid (And.intro bn (And.intro bd (And.intro bG hG0)))
  have HB1 := Lib.hid (bd_one bd h0)
  have HBV := Lib.hid (bd_quot bd (show G ∣ d by rw [← hG]; exact gcd_dvdR n d) hG0)
  clear hG hn hd bn bd bG hG0 h0
  have hB := Below.refl w.heap.size w
  go_enter Tryz.func149, Tryz.ntmps149
  go_wp2_with fail
  (with_reducible refine (GC.out _ ?_).mono ?_); (repeat (first | exact Below.refl _ _ | exact hB | refine Below.drew ?_ | refine below_drewN ?_ _ | refine bset ?_ (by simp <;> omega) _ | refine bal ?_ _))
  rintro e w1 ⟨⟨g, rfl, hg⟩, hb1⟩
  have n0 : w1.cell? ⟨w.heap.size, 0, none⟩ = some (.bool nn) := bkc hb1
  have zn0 := cell_lt n0
  have n0f : w1.frozen? ⟨w.heap.size, 0, none⟩ = false := bkcf (v := .bool nn) hb1
  have n1 : w1.cell? ⟨w.heap.size, 1, none⟩ = some (.slice na nl nc) := bkc hb1
  have n1f : w1.frozen? ⟨w.heap.size, 1, none⟩ = false := bkcf (v := .slice na nl nc) hb1
  have d0 : w1.cell? ⟨w.heap.size + 1, 0, none⟩ = some (.bool dn) := bkc hb1
  have zd0 := cell_lt d0
  have d0f : w1.frozen? ⟨w.heap.size + 1, 0, none⟩ = false := bkcf (v := .bool dn) hb1
  have d1 : w1.cell? ⟨w.heap.size + 1, 1, none⟩ = some (.slice da dl dc) := bkc hb1
  have d1f : w1.frozen? ⟨w.heap.size + 1, 1, none⟩ = false := bkcf (v := .slice da dl dc) hb1
  have r0 : w1.cell? ⟨w.heap.size + 1 + 1, 0, none⟩ = some (.bool false) := bkc hb1
  have zr0 := cell_lt r0
  have r0f : w1.frozen? ⟨w.heap.size + 1 + 1, 0, none⟩ = false := bkcf (v := .bool false) hb1
  have r1 : w1.cell? ⟨w.heap.size + 1 + 1, 1, none⟩ = some (.slice none 0 0) := bkc hb1
  have r1f : w1.frozen? ⟨w.heap.size + 1 + 1, 1, none⟩ = false := bkcf (v := .slice none 0 0) hb1
  have r2 : w1.cell? ⟨w.heap.size + 1 + 1, 2, none⟩ = some (.bool false) := bkc hb1
  have r2f : w1.frozen? ⟨w.heap.size + 1 + 1, 2, none⟩ = false := bkcf (v := .bool false) hb1
  have r3 : w1.cell? ⟨w.heap.size + 1 + 1, 3, none⟩ = some (.slice none 0 0) := bkc hb1
  have r3f : w1.frozen? ⟨w.heap.size + 1 + 1, 3, none⟩ = false := bkcf (v := .slice none 0 0) hb1
  have hB : Below w.heap.size w w1 := bthen (by repeat (first | exact Below.refl _ _ | exact hB | refine Below.drew ?_ | refine below_drewN ?_ _ | refine bset ?_ (by simp <;> omega) _ | refine bal ?_ _)) hb1
  have hz : w.heap.size ≤ w1.heap.size := hB.size
  have ZZ := Lib.hid (show w.heap.size + 1 + 1 < w1.heap.size from cell_lt r0)
  have HG := Lib.hid hg
  have HN1 := Lib.hid (HN.out.keep hB)
  have HD1 := Lib.hid (HD.out.keep hB)
  obtain ⟨gn, ga, gl, gc, rfl⟩ := hg.lit
  clear GC hg HN HD
  have hBw := Below.refl w1.heap.size w1
  have D1 := Lib.hid (fun W (q : Below w1.heap.size w1 W) => divmod_c _ _ n G k W (HN1.out.keep q) (HG.out.keep q) HBD.out.1 HBD.out.2.2.1 (by omega) HBD.out.2.2.2)
  go_wp2_with fail
  (with_reducible refine (D1.out _ ?_).mono ?_); (repeat (first | exact Below.refl _ _ | exact hBw | refine Below.drew ?_ | refine below_drewN ?_ _ | refine bset ?_ (by simp <;> omega) _ | refine bal ?_ _))
  rintro e w2 ⟨⟨u, u', rfl, hu, hu'⟩, hb2⟩
  have hk : Below w1.heap.size w1 w2 := bthen (by repeat (first | exact Below.refl _ _ | exact hBw | refine Below.drew ?_ | refine below_drewN ?_ _ | refine bset ?_ (by simp <;> omega) _ | refine bal ?_ _)) hb2
  have n0 : w2.cell? ⟨w.heap.size, 0, none⟩ = some (.bool nn) := bkc hb2
  have zn0 := cell_lt n0
  have n0f : w2.frozen? ⟨w.heap.size, 0, none⟩ = false := bkcf (v := .bool nn) hb2
  have n1 : w2.cell? ⟨w.heap.size, 1, none⟩ = some (.slice na nl nc) := bkc hb2
  have n1f : w2.frozen? ⟨w.heap.size, 1, none⟩ = false := bkcf (v := .slice na nl nc) hb2
  have d0 : w2.cell? ⟨w.heap.size + 1, 0, none⟩ = some (.bool dn) := bkc hb2
  have zd0 := cell_lt d0
  have d0f : w2.frozen? ⟨w.heap.size + 1, 0, none⟩ = false := bkcf (v := .bool dn) hb2
  have d1 : w2.cell? ⟨w.heap.size + 1, 1, none⟩ = some (.slice da dl dc) := bkc hb2
  have d1f : w2.frozen? ⟨w.heap.size + 1, 1, none⟩ = false := bkcf (v := .slice da dl dc) hb2
  have r0 : w2.cell? ⟨w.heap.size + 1 + 1, 0, none⟩ = some (.bool false) := bkc hb2
  have zr0 := cell_lt r0
  have r0f : w2.frozen? ⟨w.heap.size + 1 + 1, 0, none⟩ = false := bkcf (v := .bool false) hb2
  have r1 : w2.cell? ⟨w.heap.size + 1 + 1, 1, none⟩ = some (.slice none 0 0) := bkc hb2
  have r1f : w2.frozen? ⟨w.heap.size + 1 + 1, 1, none⟩ = false := bkcf (v := .slice none 0 0) hb2
  have r2 : w2.cell? ⟨w.heap.size + 1 + 1, 2, none⟩ = some (.bool false) := bkc hb2
  have r2f : w2.frozen? ⟨w.heap.size + 1 + 1, 2, none⟩ = false := bkcf (v := .bool false) hb2
  have r3 : w2.cell? ⟨w.heap.size + 1 + 1, 3, none⟩ = some (.slice none 0 0) := bkc hb2
  have r3f : w2.frozen? ⟨w.heap.size + 1 + 1, 3, none⟩ = false := bkcf (v := .slice none 0 0) hb2
  have g0 : w2.cell? ⟨w1.heap.size, 0, none⟩ = some (.bool gn) := bkc hb2
  have zg0 := cell_lt g0
  have g1 : w2.cell? ⟨w1.heap.size, 1, none⟩ = some (.slice ga gl gc) := bkc hb2
  have hB : Below w.heap.size w w2 := bthen (by repeat (first | exact Below.refl _ _ | exact hB | refine Below.drew ?_ | refine below_drewN ?_ _ | refine bset ?_ (by simp <;> omega) _ | refine bal ?_ _)) hb2
  have hz : w.heap.size ≤ w2.heap.size := hB.size
  have HU := Lib.hid hu
  have HD2 := Lib.hid (HD1.out.keep hk)
  have HG2 := Lib.hid (HG.out.keep hk)
  obtain ⟨un, ua, ul, uc, rfl⟩ := hu.lit
  obtain ⟨vn', va', vl', vc', rfl⟩ := hu'.lit
  clear D1 hu hu' HN1 HD1 HG hBw hk hb1 hb2
  go_upto_region 3 with (fail)
  have hzz : w.heap.size + 1 + 1 < w1.heap.size := ZZ.out
  have HU3 := Lib.hid (HU.out.put2 n0 n1 (.bool un) (.slice ua ul uc))
  have HD3 := Lib.hid (HD2.out.put2 n0 n1 (.bool un) (.slice ua ul uc))
  have HG3 := Lib.hid (HG2.out.put2 n0 n1 (.bool un) (.slice ua ul uc))
  refine wp_name fun w3 hW3 => ?_
  rw [← hW3] at HU3 HD3 HG3
  have hB : Below w.heap.size w w3 := by rw [hW3]; exact bset (bset hB (by show w.heap.size ≤ w.heap.size; omega) _) (by show w.heap.size ≤ w.heap.size; omega) _
  have n0q : w3.cell? ⟨w.heap.size, 0, none⟩ = some (.bool un) := by rw [hW3]; exact put2_0 n0
  have n0qf : w3.frozen? ⟨w.heap.size, 0, none⟩ = false := by rw [hW3]; exact put2_f n0f
  have n1q : w3.cell? ⟨w.heap.size, 1, none⟩ = some (.slice ua ul uc) := by rw [hW3]; exact put2_1 n1
  have n1qf : w3.frozen? ⟨w.heap.size, 1, none⟩ = false := by rw [hW3]; exact put2_f n1f
  have d0q := put2_keep (u := .bool un) (v := .slice ua ul uc) d0 (show _ ≠ w.heap.size by omega)
  rw [← hW3] at d0q
  have d0qf := put2_f (g := w.heap.size) (u := .bool un) (v := .slice ua ul uc) d0f
  rw [← hW3] at d0qf
  have d1q := put2_keep (u := .bool un) (v := .slice ua ul uc) d1 (show _ ≠ w.heap.size by omega)
  rw [← hW3] at d1q
  have d1qf := put2_f (g := w.heap.size) (u := .bool un) (v := .slice ua ul uc) d1f
  rw [← hW3] at d1qf
  have r0q := put2_keep (u := .bool un) (v := .slice ua ul uc) r0 (show _ ≠ w.heap.size by omega)
  rw [← hW3] at r0q
  have r0qf := put2_f (g := w.heap.size) (u := .bool un) (v := .slice ua ul uc) r0f
  rw [← hW3] at r0qf
  have r1q := put2_keep (u := .bool un) (v := .slice ua ul uc) r1 (show _ ≠ w.heap.size by omega)
  rw [← hW3] at r1q
  have r1qf := put2_f (g := w.heap.size) (u := .bool un) (v := .slice ua ul uc) r1f
  rw [← hW3] at r1qf
  have r2q := put2_keep (u := .bool un) (v := .slice ua ul uc) r2 (show _ ≠ w.heap.size by omega)
  rw [← hW3] at r2q
  have r2qf := put2_f (g := w.heap.size) (u := .bool un) (v := .slice ua ul uc) r2f
  rw [← hW3] at r2qf
  have r3q := put2_keep (u := .bool un) (v := .slice ua ul uc) r3 (show _ ≠ w.heap.size by omega)
  rw [← hW3] at r3q
  have r3qf := put2_f (g := w.heap.size) (u := .bool un) (v := .slice ua ul uc) r3f
  rw [← hW3] at r3qf
  have g0q := put2_keep (u := .bool un) (v := .slice ua ul uc) g0 (show _ ≠ w.heap.size by omega)
  rw [← hW3] at g0q
  have g1q := put2_keep (u := .bool un) (v := .slice ua ul uc) g1 (show _ ≠ w.heap.size by omega)
  rw [← hW3] at g1q
  clear hW3 n0 n1 d0 d1 r0 r1 r2 r3 g0 g1 n0f n1f d0f d1f r0f r1f r2f r3f
  have n0 := n0q
  have n1 := n1q
  have d0 := d0q
  have d1 := d1q
  have r0 := r0q
  have r1 := r1q
  have r2 := r2q
  have r3 := r3q
  have g0 := g0q
  have g1 := g1q
  have n0f := n0qf
  have n1f := n1qf
  have d0f := d0qf
  have d1f := d1qf
  have r0f := r0qf
  have r1f := r1qf
  have r2f := r2qf
  have r3f := r3qf
  clear n0q n1q d0q d1q r0q r1q r2q r3q g0q g1q n0qf n1qf d0qf d1qf r0qf r1qf r2qf r3qf
  have zn0 := cell_lt n0
  have zd0 := cell_lt d0
  have zr0 := cell_lt r0
  have zg0 := cell_lt g0
  clear HU HD2 HG2
  have hBw := Below.refl w3.heap.size w3
  have D2 := Lib.hid (fun W (q : Below w3.heap.size w3 W) => divmod_c _ _ d G k W (HD3.out.keep q) (HG3.out.keep q) HBD.out.2.1 HBD.out.2.2.1 (by omega) HBD.out.2.2.2)
  go_wp2_with fail
  (with_reducible refine (D2.out _ ?_).mono ?_); (repeat (first | exact Below.refl _ _ | exact hBw | refine Below.drew ?_ | refine below_drewN ?_ _ | refine bset ?_ (by simp <;> omega) _ | refine bal ?_ _))
  rintro e w4 ⟨⟨v, v', rfl, hv, hv'⟩, hb4⟩
  have hk : Below w3.heap.size w3 w4 := bthen (by repeat (first | exact Below.refl _ _ | exact hBw | refine Below.drew ?_ | refine below_drewN ?_ _ | refine bset ?_ (by simp <;> omega) _ | refine bal ?_ _)) hb4
  have n0 : w4.cell? ⟨w.heap.size, 0, none⟩ = some (.bool un) := bkc hb4
  have zn0 := cell_lt n0
  have n0f : w4.frozen? ⟨w.heap.size, 0, none⟩ = false := bkcf (v := .bool un) hb4
  have n1 : w4.cell? ⟨w.heap.size, 1, none⟩ = some (.slice ua ul uc) := bkc hb4
  have n1f : w4.frozen? ⟨w.heap.size, 1, none⟩ = false := bkcf (v := .slice ua ul uc) hb4
  have d0 : w4.cell? ⟨w.heap.size + 1, 0, none⟩ = some (.bool dn) := bkc hb4
  have zd0 := cell_lt d0
  have d0f : w4.frozen? ⟨w.heap.size + 1, 0, none⟩ = false := bkcf (v := .bool dn) hb4
  have d1 : w4.cell? ⟨w.heap.size + 1, 1, none⟩ = some (.slice da dl dc) := bkc hb4
  have d1f : w4.frozen? ⟨w.heap.size + 1, 1, none⟩ = false := bkcf (v := .slice da dl dc) hb4
  have r0 : w4.cell? ⟨w.heap.size + 1 + 1, 0, none⟩ = some (.bool false) := bkc hb4
  have zr0 := cell_lt r0
  have r0f : w4.frozen? ⟨w.heap.size + 1 + 1, 0, none⟩ = false := bkcf (v := .bool false) hb4
  have r1 : w4.cell? ⟨w.heap.size + 1 + 1, 1, none⟩ = some (.slice none 0 0) := bkc hb4
  have r1f : w4.frozen? ⟨w.heap.size + 1 + 1, 1, none⟩ = false := bkcf (v := .slice none 0 0) hb4
  have r2 : w4.cell? ⟨w.heap.size + 1 + 1, 2, none⟩ = some (.bool false) := bkc hb4
  have r2f : w4.frozen? ⟨w.heap.size + 1 + 1, 2, none⟩ = false := bkcf (v := .bool false) hb4
  have r3 : w4.cell? ⟨w.heap.size + 1 + 1, 3, none⟩ = some (.slice none 0 0) := bkc hb4
  have r3f : w4.frozen? ⟨w.heap.size + 1 + 1, 3, none⟩ = false := bkcf (v := .slice none 0 0) hb4
  have hB : Below w.heap.size w w4 := bthen (by repeat (first | exact Below.refl _ _ | exact hB | refine Below.drew ?_ | refine below_drewN ?_ _ | refine bset ?_ (by simp <;> omega) _ | refine bal ?_ _)) hb4
  have hz : w.heap.size ≤ w4.heap.size := hB.size
  have HV := Lib.hid hv
  have HU4 := Lib.hid (HU3.out.keep hk)
  obtain ⟨vn, va, vl, vc, rfl⟩ := hv.lit
  obtain ⟨xn', xa', xl', xc', rfl⟩ := hv'.lit
  clear D2 hv hv' HU3 HD3 HG3 hBw hk hb4
  go_upto_region 4 with (fail)
  have HU5 := Lib.hid (HU4.out.put2 d0 d1 (.bool vn) (.slice va vl vc))
  have HV5 := Lib.hid (HV.out.put2 d0 d1 (.bool vn) (.slice va vl vc))
  refine wp_name fun w5 hW5 => ?_
  rw [← hW5] at HU5 HV5
  have hB : Below w.heap.size w w5 := by rw [hW5]; exact bset (bset hB (by show w.heap.size ≤ w.heap.size + 1; omega) _) (by show w.heap.size ≤ w.heap.size + 1; omega) _
  have d0q : w5.cell? ⟨w.heap.size + 1, 0, none⟩ = some (.bool vn) := by rw [hW5]; exact put2_0 d0
  have d0qf : w5.frozen? ⟨w.heap.size + 1, 0, none⟩ = false := by rw [hW5]; exact put2_f d0f
  have d1q : w5.cell? ⟨w.heap.size + 1, 1, none⟩ = some (.slice va vl vc) := by rw [hW5]; exact put2_1 d1
  have d1qf : w5.frozen? ⟨w.heap.size + 1, 1, none⟩ = false := by rw [hW5]; exact put2_f d1f
  have n0q := put2_keep (u := .bool vn) (v := .slice va vl vc) n0 (show _ ≠ w.heap.size + 1 by omega)
  rw [← hW5] at n0q
  have n0qf := put2_f (g := w.heap.size + 1) (u := .bool vn) (v := .slice va vl vc) n0f
  rw [← hW5] at n0qf
  have n1q := put2_keep (u := .bool vn) (v := .slice va vl vc) n1 (show _ ≠ w.heap.size + 1 by omega)
  rw [← hW5] at n1q
  have n1qf := put2_f (g := w.heap.size + 1) (u := .bool vn) (v := .slice va vl vc) n1f
  rw [← hW5] at n1qf
  have r0q := put2_keep (u := .bool vn) (v := .slice va vl vc) r0 (show _ ≠ w.heap.size + 1 by omega)
  rw [← hW5] at r0q
  have r0qf := put2_f (g := w.heap.size + 1) (u := .bool vn) (v := .slice va vl vc) r0f
  rw [← hW5] at r0qf
  have r1q := put2_keep (u := .bool vn) (v := .slice va vl vc) r1 (show _ ≠ w.heap.size + 1 by omega)
  rw [← hW5] at r1q
  have r1qf := put2_f (g := w.heap.size + 1) (u := .bool vn) (v := .slice va vl vc) r1f
  rw [← hW5] at r1qf
  have r2q := put2_keep (u := .bool vn) (v := .slice va vl vc) r2 (show _ ≠ w.heap.size + 1 by omega)
  rw [← hW5] at r2q
  have r2qf := put2_f (g := w.heap.size + 1) (u := .bool vn) (v := .slice va vl vc) r2f
  rw [← hW5] at r2qf
  have r3q := put2_keep (u := .bool vn) (v := .slice va vl vc) r3 (show _ ≠ w.heap.size + 1 by omega)
  rw [← hW5] at r3q
  have r3qf := put2_f (g := w.heap.size + 1) (u := .bool vn) (v := .slice va vl vc) r3f
  rw [← hW5] at r3qf
  clear hW5 d0 d1 n0 n1 r0 r1 r2 r3 n0f n1f d0f d1f r0f r1f r2f r3f
  have d0 := d0q
  have d1 := d1q
  have n0 := n0q
  have n1 := n1q
  have r0 := r0q
  have r1 := r1q
  have r2 := r2q
  have r3 := r3q
  have n0f := n0qf
  have n1f := n1qf
  have d0f := d0qf
  have d1f := d1qf
  have r0f := r0qf
  have r1f := r1qf
  have r2f := r2qf
  have r3f := r3qf
  clear d0q d1q n0q n1q r0q r1q r2q r3q n0qf n1qf d0qf d1qf r0qf r1qf r2qf r3qf
  have zn0 := cell_lt n0
  have zd0 := cell_lt d0
  have zr0 := cell_lt r0
  clear HU4 HV
  have hBw := Below.refl w5.heap.size w5
  have OC := Lib.hid (fun W => of_c 1 W (by decide) (by decide))
  have SC := Lib.hid (fun u W (q : Below w5.heap.size w5 W) (hu : IsInt W u 1) => subI_c _ u (d / G) 1 k W (HV5.out.keep q) hu HBV.out HB1.out (by omega))
  have HB5 := Lib.hid hB
  have HCELL := Lib.hid (show ∀ V, Below w5.heap.size w5 V → (V.cell? ⟨w.heap.size, 0, none⟩ = some (.bool un) ∧ V.cell? ⟨w.heap.size, 1, none⟩ = some (.slice ua ul uc) ∧ V.cell? ⟨w.heap.size + 1, 0, none⟩ = some (.bool vn) ∧ V.cell? ⟨w.heap.size + 1, 1, none⟩ = some (.slice va vl vc)) ∧ (V.cell? ⟨w.heap.size + 1 + 1, 0, none⟩ = some (.bool false) ∧ V.cell? ⟨w.heap.size + 1 + 1, 1, none⟩ = some (.slice none 0 0) ∧ V.cell? ⟨w.heap.size + 1 + 1, 2, none⟩ = some (.bool false) ∧ V.cell? ⟨w.heap.size + 1 + 1, 3, none⟩ = some (.slice none 0 0)) ∧ (V.frozen? ⟨w.heap.size + 1 + 1, 0, none⟩ = false ∧ V.frozen? ⟨w.heap.size + 1 + 1, 1, none⟩ = false ∧ V.frozen? ⟨w.heap.size + 1 + 1, 2, none⟩ = false ∧ V.frozen? ⟨w.heap.size + 1 + 1, 3, none⟩ = false) from fun V q => ⟨⟨bkeep q n0, bkeep q n1, bkeep q d0, bkeep q d1⟩, ⟨bkeep q r0, bkeep q r1, bkeep q r2, bkeep q r3⟩, ⟨bkeepf q r0 r0f, bkeepf q r1 r1f, bkeepf q r2 r2f, bkeepf q r3 r3f⟩⟩)
  clear n0f n1f d0f d1f hzz
  go_region_law (go_simp; go_wp2_with (first
    | (go_at_call 25; refine (OC.out _).mono ?_; rintro e w6 ⟨⟨ov, rfl, hov⟩, hb6⟩; (have hBd : Below w5.heap.size w5 w6 := bthen (by repeat (first | exact Below.refl _ _ | exact hBw | refine Below.drew ?_ | refine below_drewN ?_ _ | refine bset ?_ (by simp <;> omega) _ | refine bal ?_ _)) hb6; clear hBw; have hBw := hBd; clear hBd); have HO := Lib.hid hov; have hy6 := Below.refl w6.heap.size w6; obtain ⟨⟨n0, n1, d0, d1⟩, ⟨r0, r1, r2, r3⟩, ⟨r0f, r1f, r2f, r3f⟩⟩ := HCELL.out w6 hBw; obtain ⟨n6, a6, c6, l6, rfl, -⟩ := hov; unfold iv at *)
    | (go_at_call 131; refine (SC.out _ _ ?_ (HO.out.keep ?_)).mono ?_; (repeat (first | exact Below.refl _ _ | exact hBw | refine Below.drew ?_ | refine below_drewN ?_ _ | refine bset ?_ (by simp <;> omega) _ | refine bal ?_ _)); (repeat (first | exact Below.refl _ _ | exact hy6 | refine Below.drew ?_ | refine below_drewN ?_ _ | refine bset ?_ (by simp <;> omega) _ | refine bal ?_ _)); rintro e w7 ⟨⟨sv, rfl, hsv⟩, hb7⟩; (have hBd : Below w5.heap.size w5 w7 := bthen (by repeat (first | exact Below.refl _ _ | exact hBw | refine Below.drew ?_ | refine below_drewN ?_ _ | refine bset ?_ (by simp <;> omega) _ | refine bal ?_ _)) hb7; clear hBw; have hBw := hBd; clear hBd); have HSV := Lib.hid hsv; obtain ⟨⟨n0, n1, d0, d1⟩, ⟨r0, r1, r2, r3⟩, ⟨r0f, r1f, r2f, r3f⟩⟩ := HCELL.out w7 hBw; obtain ⟨sn, sa, sl, sc, rfl⟩ := hsv.lit)
    | fail))
  all_goals
    have HU7 := Lib.hid ((HU5.out.keep hBw).put4 r0 r1 r2 r3 (.bool un) (.slice ua ul uc) (.bool sn) (.slice sa sl sc))
    have HS7 := Lib.hid (HSV.out.put4 r0 r1 r2 r3 (.bool un) (.slice ua ul uc) (.bool sn) (.slice sa sl sc))
    have hBf := bthen HB5.out hBw
    go_wp2
    refine bodyPost_ret (v := .agg #[.bool un, .slice ua ul uc, .bool sn, .slice sa sl sc]) (by simp [results, Tryz.results149, go_sem, *]) rfl ⟨⟨_, rfl, _, _, _, _, _, _, _, _, rfl, ?_, ?_⟩, ?_⟩
    · first | exact HU7.out | exact HU7.out.keep (Below.refl _ _).drew
    · first | exact HS7.out | exact HS7.out.keep (Below.refl _ _).drew
    ·
      repeat (first | exact Below.refl _ _ | exact hBf | refine Below.drew ?_ | refine below_drewN ?_ _ | refine bset ?_ (by simp <;> omega) _ | refine bal ?_ _)
end Go.Proofs.YthaohpfbengabaaGreatDoor

/- ratio: Make over a number above 0, Num, Den. -/
namespace Go.Proofs.YthaohpfbengabaaGreatDoor
open Num
open Go.ChangeShapes Go.WideShapes Go.ChangeAt Go.RowKit
set_option linter.unusedVariables false
set_option linter.unusedSimpArgs false
attribute [local go_sem ↓] Go.wp_at_zero Go.wp_at_succ
set_option maxRecDepth 100000 in
set_option maxHeartbeats 8000000 in
theorem makePos_c (vn vd : Value) (n d : Int) (k : Nat) (w : World) (hn : IsInt w vn n) (hd : IsInt w vd d) (bn : Bd k n) (bd : Bd k d) (hk : k ≤ 17179869180) (h0 : 0 < d) :
    Calls Tryz.prog 108 #[vn, vd] w fun e w' => (∃ v, e = .returned (.tuple #[v, .int .i64 0]) ∧ IsRat w' v (n / gcdI n d) (d / gcdI n d)) ∧ Below w.heap.size w w' := by
  have SG := Lib.hid (fun W (q : Below w.heap.size w W) => (show Calls Tryz.prog 15 #[vd] W fun e w' => e = .returned (.int .i64 1) ∧ Below W.heap.size W w' from by
    have h := sign_c vd d W (hd.keep q)
    rw [Int.sign_eq_one_of_pos h0] at h
    exact h))
  have LC := Lib.hid (fun W (q : Below w.heap.size w W) => lowest_c vn vd n d k W (hn.keep q) (hd.keep q) bn bd hk (by omega))
  obtain ⟨nn, na, nl, nc, rfl⟩ := hn.lit
  obtain ⟨dn, da, dl, dc, rfl⟩ := hd.lit
  obtain ⟨N, hN⟩ : ∃ N, n / gcdI n d = N := ⟨_, rfl⟩
  obtain ⟨D, hD⟩ : ∃ D, d / gcdI n d = D := ⟨_, rfl⟩
  rw [hN, hD] at LC ⊢
  clear hN hD hn hd bn bd hk h0
  have hB := Below.refl w.heap.size w
  go_enter Tryz.func108, Tryz.ntmps108
  go_wp2_with fail
  (with_reducible refine (SG.out _ ?_).mono ?_); (repeat (first | exact Below.refl _ _ | exact hB | refine Below.drew ?_ | refine below_drewN ?_ _ | refine bset ?_ (by simp <;> omega) _ | refine bal ?_ _))
  rintro e w1 ⟨rfl, hb1⟩
  have n0 : w1.cell? ⟨w.heap.size, 0, none⟩ = some (.bool nn) := bkc hb1
  have zn0 := cell_lt n0
  have n1 : w1.cell? ⟨w.heap.size, 1, none⟩ = some (.slice na nl nc) := bkc hb1
  have d0 : w1.cell? ⟨w.heap.size + 1, 0, none⟩ = some (.bool dn) := bkc hb1
  have zd0 := cell_lt d0
  have d1 : w1.cell? ⟨w.heap.size + 1, 1, none⟩ = some (.slice da dl dc) := bkc hb1
  have r0 : w1.cell? ⟨w.heap.size + 1 + 1, 0, none⟩ = some (.bool false) := bkc hb1
  have zr0 := cell_lt r0
  have r0f : w1.frozen? ⟨w.heap.size + 1 + 1, 0, none⟩ = false := bkcf (v := .bool false) hb1
  have r1 : w1.cell? ⟨w.heap.size + 1 + 1, 1, none⟩ = some (.slice none 0 0) := bkc hb1
  have r1f : w1.frozen? ⟨w.heap.size + 1 + 1, 1, none⟩ = false := bkcf (v := .slice none 0 0) hb1
  have r2 : w1.cell? ⟨w.heap.size + 1 + 1, 2, none⟩ = some (.bool false) := bkc hb1
  have r2f : w1.frozen? ⟨w.heap.size + 1 + 1, 2, none⟩ = false := bkcf (v := .bool false) hb1
  have r3 : w1.cell? ⟨w.heap.size + 1 + 1, 3, none⟩ = some (.slice none 0 0) := bkc hb1
  have r3f : w1.frozen? ⟨w.heap.size + 1 + 1, 3, none⟩ = false := bkcf (v := .slice none 0 0) hb1
  have hB : Below w.heap.size w w1 := bthen (by repeat (first | exact Below.refl _ _ | exact hB | refine Below.drew ?_ | refine below_drewN ?_ _ | refine bset ?_ (by simp <;> omega) _ | refine bal ?_ _)) hb1
  have hz : w.heap.size ≤ w1.heap.size := hB.size
  clear SG hb1
  go_wp2_with fail
  (with_reducible refine (LC.out _ ?_).mono ?_); (repeat (first | exact Below.refl _ _ | exact hB | refine Below.drew ?_ | refine below_drewN ?_ _ | refine bset ?_ (by simp <;> omega) _ | refine bal ?_ _))
  rintro e w2 ⟨⟨v, rfl, hv⟩, hb2⟩
  have r0 : w2.cell? ⟨w.heap.size + 1 + 1, 0, none⟩ = some (.bool false) := bkc hb2
  have zr0 := cell_lt r0
  have r0f : w2.frozen? ⟨w.heap.size + 1 + 1, 0, none⟩ = false := bkcf (v := .bool false) hb2
  have r1 : w2.cell? ⟨w.heap.size + 1 + 1, 1, none⟩ = some (.slice none 0 0) := bkc hb2
  have r1f : w2.frozen? ⟨w.heap.size + 1 + 1, 1, none⟩ = false := bkcf (v := .slice none 0 0) hb2
  have r2 : w2.cell? ⟨w.heap.size + 1 + 1, 2, none⟩ = some (.bool false) := bkc hb2
  have r2f : w2.frozen? ⟨w.heap.size + 1 + 1, 2, none⟩ = false := bkcf (v := .bool false) hb2
  have r3 : w2.cell? ⟨w.heap.size + 1 + 1, 3, none⟩ = some (.slice none 0 0) := bkc hb2
  have r3f : w2.frozen? ⟨w.heap.size + 1 + 1, 3, none⟩ = false := bkcf (v := .slice none 0 0) hb2
  have hB : Below w.heap.size w w2 := bthen (by repeat (first | exact Below.refl _ _ | exact hB | refine Below.drew ?_ | refine below_drewN ?_ _ | refine bset ?_ (by simp <;> omega) _ | refine bal ?_ _)) hb2
  have hz : w.heap.size ≤ w2.heap.size := hB.size
  obtain ⟨un, ua, ul, uc, sn, sa, sl, sc, rfl, hu, hs⟩ := hv
  have HU := Lib.hid (hu.put4 r0 r1 r2 r3 (.bool un) (.slice ua ul uc) (.bool sn) (.slice sa sl sc))
  have HS := Lib.hid (hs.put4 r0 r1 r2 r3 (.bool un) (.slice ua ul uc) (.bool sn) (.slice sa sl sc))
  clear hu hs LC n0 n1 d0 d1
  go_wp2
  refine bodyPost_ret (v := .tuple #[.agg #[.bool un, .slice ua ul uc, .bool sn, .slice sa sl sc], .int .i64 0]) (by simp [results, Tryz.results108, go_sem, *]) rfl ⟨⟨_, rfl, _, _, _, _, _, _, _, _, rfl, ?_, ?_⟩, ?_⟩
  · first | exact HU.out | exact HU.out.keep (Below.refl _ _).drew
  · first | exact HS.out | exact HS.out.keep (Below.refl _ _).drew
  ·
    repeat (first | exact Below.refl _ _ | exact hB | refine Below.drew ?_ | refine below_drewN ?_ _ | refine bset ?_ (by simp <;> omega) _ | refine bal ?_ _)
set_option maxRecDepth 100000 in
set_option maxHeartbeats 8000000 in
theorem num_c (v : Value) (n d : Int) (w : World) (hv : IsRat w v n d) :
    Calls Tryz.prog 118 #[v] w fun e w' => (∃ u, e = .returned u ∧ IsInt w' u n) ∧ Below w.heap.size w w' := by
  obtain ⟨un, ua, ul, uc, sn, sa, sl, sc, rfl, hu, hs⟩ := hv
  have HU := Lib.hid hu
  clear hu hs
  have hB := Below.refl w.heap.size w
  go_enter Tryz.func118, Tryz.ntmps118
  go_wp2
  refine bodyPost_ret (v := .agg #[.bool un, .slice ua ul uc]) (by simp [results, Tryz.results118, go_sem, *]) rfl ⟨⟨_, rfl, ?_⟩, ?_⟩
  · exact HU.out.keep (by repeat (first | exact Below.refl _ _ | exact hB | refine Below.drew ?_ | refine below_drewN ?_ _ | refine bset ?_ (by simp <;> omega) _ | refine bal ?_ _))
  ·
    repeat (first | exact Below.refl _ _ | exact hB | refine Below.drew ?_ | refine below_drewN ?_ _ | refine bset ?_ (by simp <;> omega) _ | refine bal ?_ _)
end Go.Proofs.YthaohpfbengabaaGreatDoor

/- ratio: Den. -/
namespace Go.Proofs.YthaohpfbengabaaGreatDoor
open Num
open Go.ChangeShapes Go.WideShapes Go.ChangeAt Go.RowKit
set_option linter.unusedVariables false
set_option linter.unusedSimpArgs false
attribute [local go_sem ↓] Go.wp_at_zero Go.wp_at_succ
set_option maxRecDepth 100000 in
set_option maxHeartbeats 8000000 in
theorem den_c (v : Value) (n d : Int) (k : Nat) (w : World) (hv : IsRat w v n d) (bd : Bd k (d - 1)) (b1 : Bd k 1) (hk : k ≤ 17179869180) :
    Calls Tryz.prog 114 #[v] w fun e w' => (∃ u, e = .returned u ∧ IsInt w' u d) ∧ Below w.heap.size w w' := by
  obtain ⟨un, ua, ul, uc, sn, sa, sl, sc, rfl, hu, hs⟩ := hv
  have OC := Lib.hid (fun W => of_c 1 W (by decide) (by decide))
  have AC := Lib.hid (fun u W (q : Below w.heap.size w W) (hu : IsInt W u 1) => addI_c _ u (d - 1) 1 k W (hs.keep q) hu bd b1 (by omega))
  rw [show d - 1 + 1 = d by omega] at AC
  clear hu hs bd b1 hk
  have hB := Below.refl w.heap.size w
  go_enter Tryz.func114, Tryz.ntmps114
  go_wp2
  refine wp_name fun w5 hW5 => ?_
  have HB5 := Lib.hid (show Below w.heap.size w w5 by rw [hW5]; repeat (first | exact Below.refl _ _ | exact hB | refine Below.drew ?_ | refine below_drewN ?_ _ | refine bset ?_ (by simp <;> omega) _ | refine bal ?_ _))
  have HC5 := Lib.hid (show w5.cell? ⟨w.heap.size, 2, none⟩ = some (.bool sn) ∧ w5.cell? ⟨w.heap.size, 3, none⟩ = some (.slice sa sl sc) ∧ w5.cell? ⟨w.heap.size + 1, 0, none⟩ = some (.bool false) ∧ w5.cell? ⟨w.heap.size + 1, 1, none⟩ = some (.slice none 0 0) ∧ w5.frozen? ⟨w.heap.size + 1, 0, none⟩ = false ∧ w5.frozen? ⟨w.heap.size + 1, 1, none⟩ = false from by rw [hW5]; simp [go_sem])
  clear hW5 hB
  have HCELL := Lib.hid (show ∀ V, Below w5.heap.size w5 V → V.cell? ⟨w.heap.size, 2, none⟩ = some (.bool sn) ∧ V.cell? ⟨w.heap.size, 3, none⟩ = some (.slice sa sl sc) ∧ V.cell? ⟨w.heap.size + 1, 0, none⟩ = some (.bool false) ∧ V.cell? ⟨w.heap.size + 1, 1, none⟩ = some (.slice none 0 0) ∧ V.frozen? ⟨w.heap.size + 1, 0, none⟩ = false ∧ V.frozen? ⟨w.heap.size + 1, 1, none⟩ = false from fun V q => ⟨bkeep q HC5.out.1, bkeep q HC5.out.2.1, bkeep q HC5.out.2.2.1, bkeep q HC5.out.2.2.2.1, bkeepf q HC5.out.2.2.1 HC5.out.2.2.2.2.1, bkeepf q HC5.out.2.2.2.1 HC5.out.2.2.2.2.2⟩)
  obtain ⟨n0, n1, r0, r1, r0f, r1f⟩ := HC5.out
  have hBw := Below.refl w5.heap.size w5
  go_region_law (go_simp; go_wp2_with (first
    | (go_at_call 25; refine (OC.out _).mono ?_; rintro e w6 ⟨⟨ov, rfl, hov⟩, hb6⟩; (have hBd : Below w5.heap.size w5 w6 := bthen (by repeat (first | exact Below.refl _ _ | exact hBw | refine Below.drew ?_ | refine below_drewN ?_ _ | refine bset ?_ (by simp <;> omega) _ | refine bal ?_ _)) hb6; clear hBw; have hBw := hBd; clear hBd); have HO := Lib.hid hov; have hy6 := Below.refl w6.heap.size w6; obtain ⟨n0, n1, r0, r1, r0f, r1f⟩ := HCELL.out w6 hBw; obtain ⟨n6, a6, c6, l6, rfl, -⟩ := hov; unfold iv at *)
    | (go_at_call 91; refine (AC.out _ _ (bthen HB5.out ?_) (HO.out.keep ?_)).mono ?_; (repeat (first | exact Below.refl _ _ | exact hBw | refine Below.drew ?_ | refine below_drewN ?_ _ | refine bset ?_ (by simp <;> omega) _ | refine bal ?_ _)); (repeat (first | exact Below.refl _ _ | exact hy6 | refine Below.drew ?_ | refine below_drewN ?_ _ | refine bset ?_ (by simp <;> omega) _ | refine bal ?_ _)); rintro e w7 ⟨⟨sv, rfl, hsv⟩, hb7⟩; (have hBd : Below w5.heap.size w5 w7 := bthen (by repeat (first | exact Below.refl _ _ | exact hBw | refine Below.drew ?_ | refine below_drewN ?_ _ | refine bset ?_ (by simp <;> omega) _ | refine bal ?_ _)) hb7; clear hBw; have hBw := hBd; clear hBd); have HSV := Lib.hid hsv; obtain ⟨n0, n1, r0, r1, r0f, r1f⟩ := HCELL.out w7 hBw; obtain ⟨tn, ta, tl, tc, rfl⟩ := hsv.lit)
    | fail))
  all_goals
    have HS7 := Lib.hid (HSV.out.put2 r0 r1 (.bool tn) (.slice ta tl tc))
    have hBf := bthen HB5.out hBw
    go_wp2
    refine bodyPost_ret (v := .agg #[.bool tn, .slice ta tl tc]) (by simp [results, Tryz.results114, go_sem, *]) rfl ⟨⟨_, rfl, ?_⟩, ?_⟩
    · first | exact HS7.out | exact HS7.out.keep (Below.refl _ _).drew
    ·
      repeat (first | exact Below.refl _ _ | exact hBf | refine Below.drew ?_ | refine below_drewN ?_ _ | refine bset ?_ (by simp <;> omega) _ | refine bal ?_ _)
end Go.Proofs.YthaohpfbengabaaGreatDoor

