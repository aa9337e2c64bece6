/- Texts of this seat, laid together: IntE, RowH, VwA, VmE, Qp, QrE, MxB, MwS, QPb, RxB, RxD, MkB. What each theorem proves, and under which conditions, its statement says. -/
import Derived.Test.YtbmaffijncapiaaGreatDoorB25
import Derived.OneCell
import Derived.Deep.DrawnRows
import Derived.Deep.RegionLaw
import Derived.Deep.Cut
import Derived.Deep.DeepCutAuto
import Derived.BigQuiet
set_option maxRecDepth 100000
set_option maxHeartbeats 32000000
set_option linter.unusedVariables false
set_option linter.unusedSimpArgs false
namespace Go.Proofs.YtbmaffijncapiaaGreatDoor
open Num
open Go.ChangeShapes Go.WideShapes Go.ChangeAt Go.RowKit
namespace Num
theorem cmpI_np (m n : Nat) (h : 0 < m) : cmpI (sg true m) (sg false n) = -1 := by
 have e : sg false n = (n : Int) := rfl
 have e' : sg true m = -(m : Int) := rfl
 rw [e, e']
 unfold cmpI; rw [if_pos (by omega)]
theorem cmpI_pn (m n : Nat) (h : 0 < n) : cmpI (sg false m) (sg true n) = 1 := by
 have e : sg false m = (m : Int) := rfl
 have e' : sg true n = -(n : Int) := rfl
 rw [e, e']
 unfold cmpI; rw [if_neg (by omega), if_neg (by omega)]
end Num

theorem cmp_c (vx vy : Value) (x y : Int) (w : World) (hx : IsInt w vx x) (hy : IsInt w vy y) :
 Calls Tryz.prog 212 #[vx, vy] w fun e w' => e = .returned (.int .i64 (cmpI x y)) ∧ Below w.heap.size w w' := by
 obtain ⟨n1, a1, c1, l1, rfl, u1, g1, s1, rfl⟩ := hx
 obtain ⟨n2, a2, c2, l2, rfl, u2, g2, s2, rfl⟩ := hy
 have hB0 := Below.refl w.heap.size w
 unfold iv
 cases n1 with
 | true =>
  have p1 : 0 < val l1 := Nat.pos_of_ne_zero (fun e => s1 rfl ((val_nil_iff g1).1 e))
  cases n2 with
  | true =>
   have HC := hZ (cmpI_nn (val l1) (val l2))
   have cc := fun w hx hy => limbCmp_c a2 a1 c2 c1 l2 l1 w hx hy
   generalize cmpN (val l2) (val l1) = z at *
   clear g1 g2 s1 s2 p1
   go_enter Tryz.func212, Tryz.ntmps212
   go_wp2_with (go_at_call 124; refine (cc _ (u2.keep bZ) (u1.keep bZ)).mono ?_; rintro e w1 ⟨rfl, hb1⟩)
   go_ret
   refine ⟨by rw [HC.out]; rfl, ?_⟩
   refine bthen ?_ hb1
   repeat exact bZ
  | false =>
   have HC := hZ (cmpI_np (val l1) (val l2) p1)
   clear g1 g2 s1 s2 p1
   go_enter Tryz.func212, Tryz.ntmps212
   go_wp2
   go_ret
   refine ⟨by rw [HC.out]; rfl, ?_⟩
   repeat exact bZ
 | false =>
  cases n2 with
  | true =>
   have p2 : 0 < val l2 := Nat.pos_of_ne_zero (fun e => s2 rfl ((val_nil_iff g2).1 e))
   have HC := hZ (cmpI_pn (val l1) (val l2) p2)
   clear g1 g2 s1 s2 p2
   go_enter Tryz.func212, Tryz.ntmps212
   go_wp2
   go_ret
   refine ⟨by rw [HC.out]; rfl, ?_⟩
   repeat exact bZ
  | false =>
   have HC := hZ (cmpI_pp (val l1) (val l2))
   have cc := fun w hx hy => limbCmp_c a1 a2 c1 c2 l1 l2 w hx hy
   generalize cmpN (val l1) (val l2) = z at *
   clear g1 g2 s1 s2
   go_enter Tryz.func212, Tryz.ntmps212
   go_wp2_with (go_at_call 124; refine (cc _ (u1.keep bZ) (u2.keep bZ)).mono ?_; rintro e w1 ⟨rfl, hb1⟩)
   go_ret
   refine ⟨by rw [HC.out]; rfl, ?_⟩
   refine bthen ?_ hb1
   repeat exact bZ
end Go.Proofs.YtbmaffijncapiaaGreatDoor
namespace Go.Proofs.YtbmaffijncapiaaGreatDoor
open Go.ChangeShapes Go.WideShapes Go.ChangeAt Go.RowKit
section
open Num
section
variable {S : TypeId → Prop} {w w' : World}
end
section
variable {R : World → Value → Int → Prop} {E : TypeId} {base : Nat} {w w' w0 : World} {v : Value} {l : List Int}
theorem RowO.rebase {base' : Nat} (h : RowO R E base w v l) (hb : base' ≤ base) : RowO R E base' w v l := by
 obtain ⟨xs, ⟨hl, h1⟩, h2⟩ := h
 refine ⟨xs, ⟨hl, ?_⟩, h2⟩
 rcases h1 with h1 | ⟨g, cap, cur, hv, hg, r⟩
 · exact .inl h1
 · exact .inr ⟨g, cap, cur, hv, Nat.le_trans hb hg, r⟩
end
theorem prs_rowO {R : World → Value → Int → Prop} (hR : Lims R) (E : TypeId) (base : Nat) : Prs (fun t => t = 177 ∨ t = E) (RowO R E base) :=
 ⟨fun h => by obtain ⟨a, c, rfl⟩ := h.ex; rfl, fun h k => h.kp hR k (.inl rfl) (.inr rfl)⟩
section
variable {α : Type} {S : TypeId → Prop} {T : TypeId} {Pr : World → Value → α → Prop} {base : Nat} {w w' w0 wr : World} {v u : Value} {g : List α} {x : α}
end
section
variable {α : Type} {P : Program} {TT T : TypeId} {bytes : Nat} {S : TypeId → Prop} {Pr : World → Value → α → Prop} {ops : Array Oper} {o : Oper} {a : Act} {Q : Exit → Act → World → Prop} {w0 wr : World} {v u : Value} {g : List α} {y : α} {t : TypeId} {s x : Operand} {cc gb : Nat}
end
end
section
open Num
def GridI (w : World) (v : Value) (g : Grid) : Prop := ∃ a c, v = .slice a g.length c ∧ ∀ k, k < g.length → ∃ b off u, a = some ⟨b, off, none⟩ ∧ w.cell? ⟨b, off + k, none⟩ = some u ∧ RowI w u (g.getD k [])
def sumG (g : Grid) : Nat := (g.map List.length).sum
theorem sumG_le {g : Grid} {k : Nat} (hk : k < g.length) : (g.getD k []).length ≤ sumG g := by
 induction g generalizing k with
 | nil => simp at hk
 | cons a g ih =>
  cases k with
  | zero => simp [sumG]
  | succ k => have := ih (k := k) (by simpa using hk); simp [sumG] at this ⊢; omega
end
section
open Num
attribute [local go_sem ↓] Go.wp_at_zero Go.wp_at_succ
section
variable {base : Nat} {w w' : World} {b rb rc : Nat} {ins regs : Int} {code : List Ins} {outs : List Int} {g : Grid} {n : Nat}
end
theorem PRow.view {base : Nat} {w : World} {v : Value} {l : List Int} (h : PRow base w v l) : ∃ a c, v = .slice a l.length c ∧ l.length ≤ c ∧ ∀ j, j < l.length → ∃ b off nb ad len cp, a = some ⟨b, off, none⟩ ∧ w.cell? ⟨b, off + j * 2, none⟩ = some (.bool nb) ∧ w.cell? ⟨b, off + j * 2 + 1, none⟩ = some (.slice ad len cp) ∧ IsInt w (.agg #[.bool nb, .slice ad len cp]) (l.getD j 0) := by
 obtain ⟨a, c, h1, h2, h3, h4⟩ := h
 refine ⟨a, c, h1, h2, fun j hj => ?_⟩
 rcases h4 with h4 | ⟨b, off, ha, hb, ht, hi⟩
 · rw [h4] at hj; simp at hj
 · obtain ⟨nb, ad, len, cp, k1, k2, k3⟩ := hi j hj
   exact ⟨b, off, nb, ad, len, cp, ha, k1, k2, k3⟩
def upto (f : Nat → Int) (k : Nat) : Nat → Int := fun j => if j < k then f j else 0
end
end Go.Proofs.YtbmaffijncapiaaGreatDoor
namespace Go.Proofs.YtbmaffijncapiaaGreatDoor
open Num
theorem q_eq {x y : Rat} (h1 : x.num = y.num) (h2 : x.den = y.den) : x = y := Rat.ext h1 h2
end Go.Proofs.YtbmaffijncapiaaGreatDoor
namespace Go.Proofs.YtbmaffijncapiaaGreatDoor
open Go.ChangeShapes Go.WideShapes Go.ChangeAt Go.RowKit
section
open Num
attribute [local go_sem ↓] Go.wp_at_zero Go.wp_at_succ
theorem rqSame_c (vx vy : Value) (x y : Rat) (w : World) (hx : IsQR w vx x) (hy : IsQR w vy y) : Calls Tryz.prog 47 #[vx, vy] w fun e w' => e = .returned (.bool (decide (x = y))) ∧ Below w.heap.size w w' := by
 obtain ⟨n1, a1, l1, c1, n2, a2, l2, c2, rfl, h1, h2⟩ := hx
 obtain ⟨n3, a3, l3, c3, n4, a4, l4, c4, rfl, h3, h4⟩ := hy
 have S1 := hZ (fun V (q : Below w.heap.size w V) => rsame_c (.agg #[.bool n1, .slice a1 l1 c1]) (.agg #[.bool n3, .slice a3 l3 c3]) _ _ V (h1.keep q) (h3.keep q))
 have S2 := hZ (fun V (q : Below w.heap.size w V) => rsame_c (.agg #[.bool n2, .slice a2 l2 c2]) (.agg #[.bool n4, .slice a4 l4 c4]) _ _ V (h2.keep q) (h4.keep q))
 clear h1 h2 h3 h4
 have HD := hZ (show decide (x = y) = (decide (x.num = y.num) && decide ((x.den : Int) = (y.den : Int))) from by
  by_cases e : x = y
  · subst e; simp
  · rw [decide_eq_false e]
    symm
    rw [Bool.and_eq_false_iff]
    by_cases e1 : x.num = y.num
    · exact .inr (decide_eq_false fun e2 => e (q_eq e1 (Int.ofNat_inj.1 e2)))
    · exact .inl (decide_eq_false e1))
 rw [HD.out]
 obtain ⟨p, hp⟩ : ∃ p, decide (x.num = y.num) = p := ⟨_, rfl⟩
 obtain ⟨r, hr⟩ : ∃ p, decide ((x.den : Int) = (y.den : Int)) = p := ⟨_, rfl⟩
 rw [hp] at S1 ⊢
 rw [hr] at S2 ⊢
 clear hp hr HD
 have hB := Below.refl w.heap.size w
 cases p with
 | false =>
  go_enter Tryz.func47, Tryz.ntmps47
  go_wp2_with fail
  (with_reducible refine (S1.out _ ?_).mono ?_); (repeat (first|exact bzR _ _|exact hB|refine bzD ?_|refine bzN ?_|refine bzS ?_|refine bzA ?_))
  rintro e w1 ⟨rfl, hb1⟩
  have hB1 : Below w.heap.size w w1 := bthen bZ hb1
  clear S1 S2 hb1
  go_wp2
  go_ret
  exact ⟨rfl, bZ⟩
 | true =>
  go_enter Tryz.func47, Tryz.ntmps47
  go_wp2_with fail
  (with_reducible refine (S1.out _ ?_).mono ?_); (repeat (first|exact bzR _ _|exact hB|refine bzD ?_|refine bzN ?_|refine bzS ?_|refine bzA ?_))
  rintro e w1 ⟨rfl, hb1⟩
  have x2 : w1.cell? ⟨w.heap.size, 2, none⟩ = some (.bool n2) := bkc hb1
  have zx2 := cell_lt x2
  have x3 : w1.cell? ⟨w.heap.size, 3, none⟩ = some (.slice a2 l2 c2) := bkc hb1
  have y2 : w1.cell? ⟨w.heap.size + 1, 2, none⟩ = some (.bool n4) := bkc hb1
  have zy2 := cell_lt y2
  have y3 : w1.cell? ⟨w.heap.size + 1, 3, none⟩ = some (.slice a4 l4 c4) := bkc hb1
  have hB : Below w.heap.size w w1 := bthen bZ hb1
  have hz := hB.size
  clear S1 hb1
  go_wp2_with fail
  (with_reducible refine (S2.out _ ?_).mono ?_); (repeat (first|exact bzR _ _|exact hB|refine bzD ?_|refine bzN ?_|refine bzS ?_|refine bzA ?_))
  rintro e w2 ⟨rfl, hb2⟩
  have hB1 : Below w.heap.size w w2 := bthen bZ hb2
  clear S2 hb2
  go_wp2
  go_ret
  exact ⟨by simp, bZ⟩
end
section
open Num
attribute [local go_sem ↓] Go.wp_at_zero Go.wp_at_succ
theorem rowsM_c (a : Option Addr) (n c : Nat) (w : World) : Calls Tryz.prog 24 #[.agg #[.slice a n c]] w fun e w' => e = .returned (.int .i64 (n : Nat)) ∧ Below w.heap.size w w' := by
 have hB := Below.refl w.heap.size w
 go_enter Tryz.func24, Tryz.ntmps24
 go_wp2
 go_ret
 exact ⟨rfl, bZ⟩
theorem colsM_c (a : Option Addr) (c : Nat) (g : Grid) (w : World) (h : IsL 68 (PRow 0) 0 w (.slice a g.length c) g) : Calls Tryz.prog 27 #[.agg #[.slice a g.length c]] w fun e w' => e = .returned (.int .i64 (cols g : Nat)) ∧ Below w.heap.size w w' := by
 have hB := Below.refl w.heap.size w
 by_cases h0 : g.length = 0
 · have hg : g = [] := List.length_eq_zero_iff.1 h0
   subst hg
   have e : cols [] = 0 := rfl
   rw [e]
   clear h e h0
   rw [show ([] : Grid).length = 0 from rfl]
   go_enter Tryz.func27, Tryz.ntmps27
   go_wp2
   go_ret
   exact ⟨rfl, bZ⟩
 · obtain ⟨c', gb, go, ra, rc, e, hu, hp⟩ := h.row (show 0 < g.length by omega)
   obtain ⟨rfl, -, rfl⟩ := Value.slice.inj e
   rw [Nat.add_zero] at hu
   have zu := cell_lt hu
   have zu2 : gb < w.heap.size + 1 := by omega
   unfold cols
   obtain ⟨m, hm⟩ : ∃ m, (g.getD 0 []).length = m := ⟨_, rfl⟩
   obtain ⟨n, hn⟩ : ∃ n, g.length = n := ⟨_, rfl⟩
   rw [hm] at hu ⊢
   rw [hn] at h0 ⊢
   have hn0 : ((n : Int) == 0) = false := by simp; omega
   have hn1 : (0 : Int) < (n : Int) := by omega
   clear h hp e hm hn
   go_enter Tryz.func27, Tryz.ntmps27
   go_wp2
   go_ret
   exact ⟨rfl, bZ⟩
end
section
open Num
theorem Mt.colsC {k n : Nat} {g : Grid} {v : Value} {w : World} (h1 : Mt k g v w) (hn : cols g = n) :
 Calls Tryz.prog 27 #[v] w fun e w' => e = .returned (.int .i64 (n : Nat)) ∧ Below w.heap.size w w' := by
 obtain ⟨a, c, rfl, hl⟩ := h1.m
 rw [← hn]
 exact colsM_c a c g w hl
end
section
open Num
attribute [local go_sem ↓] Go.wp_at_zero Go.wp_at_succ
theorem q_cmp {x y : Rat} : x.num * (y.den : Int) = y.num * (x.den : Int) ↔ x = y := by
 rw [← Rat.divInt_eq_divInt_iff (by have := den_pos x; omega) (by have := den_pos y; omega), q_self, q_self]

theorem pqCmp_c (vx vy : Value) (x y : Rat) (k m : Nat) (w : World) (hx : IsQP w vx x) (hy : IsQP w vy y) (bx : BdQ k x) (by' : BdQ m y) (hk9 : k + m ≤ 17179869180) :
 Calls Tryz.prog 128 #[vx, vy] w fun e w' => e = .returned (.int .i64 (cmpI (x.num * (y.den : Int)) (y.num * (x.den : Int)))) ∧ Below w.heap.size w w' := by
 obtain ⟨n1, a1, l1, c1, n2, a2, l2, c2, rfl, h1, h2⟩ := hx
 obtain ⟨n3, a3, l3, c3, n4, a4, l4, c4, rfl, h3, h4⟩ := hy
 have HX0 := hZ (show IsQP w (.agg #[.bool n1, .slice a1 l1 c1, .bool n2, .slice a2 l2 c2]) x from ⟨n1, a1, l1, c1, n2, a2, l2, c2, rfl, h1, h2⟩)
 have HY0 := hZ (show IsQP w (.agg #[.bool n3, .slice a3 l3 c3, .bool n4, .slice a4 l4 c4]) y from ⟨n3, a3, l3, c3, n4, a4, l4, c4, rfl, h3, h4⟩)
 have DX := hZ (fun V (q : Below w.heap.size w V) => pqDen_c (.agg #[.bool n1, .slice a1 l1 c1, .bool n2, .slice a2 l2 c2]) x k V (HX0.out.keep q) bx (by omega))
 have DY := hZ (fun V (q : Below w.heap.size w V) => pqDen_c (.agg #[.bool n3, .slice a3 l3 c3, .bool n4, .slice a4 l4 c4]) y m V (HY0.out.keep q) by' (by omega))
 have P1 := hZ (fun v V (q : Below w.heap.size w V) (hv : IsInt V v (y.den : Int)) => mul_c (.agg #[.bool n1, .slice a1 l1 c1]) v _ _ k m V (h1.keep q) hv bx.1 by'.2 (by omega) (by omega))
 have P2 := hZ (fun v V (q : Below w.heap.size w V) (hv : IsInt V v (x.den : Int)) => mul_c (.agg #[.bool n3, .slice a3 l3 c3]) v _ _ m k V (h3.keep q) hv by'.1 bx.2 (by omega) (by omega))
 have CM := hZ (fun u v V (hu : IsInt V u (x.num * (y.den : Int))) (hv : IsInt V v (y.num * (x.den : Int))) => cmp_c u v _ _ V hu hv)
 obtain ⟨z, hz⟩ : ∃ z, cmpI (x.num * (y.den : Int)) (y.num * (x.den : Int)) = z := ⟨_, rfl⟩
 rw [hz] at CM ⊢
 clear h1 h2 h3 h4 bx by' hk9 HX0 HY0 hz
 have hB := Below.refl w.heap.size w
 go_enter Tryz.func128, Tryz.ntmps128
 go_wp2
 refine wp_name fun w5 hW5 => ?_
 have HB5 := hZ (show Below w.heap.size w w5 by rw [hW5]; repeat (first|exact bzR _ _|exact hB|refine bzD ?_|refine bzN ?_|refine bzS ?_|refine bzA ?_))
 have HC5 := hZ (show w5.cell? ⟨w.heap.size, 0, none⟩ = some (.bool n1) ∧ w5.cell? ⟨w.heap.size, 1, none⟩ = some (.slice a1 l1 c1) ∧ w5.cell? ⟨w.heap.size, 2, none⟩ = some (.bool n2) ∧ w5.cell? ⟨w.heap.size, 3, none⟩ = some (.slice a2 l2 c2) ∧ w5.cell? ⟨w.heap.size + 1, 0, none⟩ = some (.bool n3) ∧ w5.cell? ⟨w.heap.size + 1, 1, none⟩ = some (.slice a3 l3 c3) ∧ w5.cell? ⟨w.heap.size + 1, 2, none⟩ = some (.bool n4) ∧ w5.cell? ⟨w.heap.size + 1, 3, none⟩ = some (.slice a4 l4 c4) from by rw [hW5]; simp [go_sem])
 clear hW5 hB
 have HS := hZ (show ∀ V, Below w5.heap.size w5 V → V.cell? ⟨w.heap.size, 0, none⟩ = some (.bool n1) ∧ V.cell? ⟨w.heap.size, 1, none⟩ = some (.slice a1 l1 c1) ∧ V.cell? ⟨w.heap.size, 2, none⟩ = some (.bool n2) ∧ V.cell? ⟨w.heap.size, 3, none⟩ = some (.slice a2 l2 c2) ∧ V.cell? ⟨w.heap.size + 1, 0, none⟩ = some (.bool n3) ∧ V.cell? ⟨w.heap.size + 1, 1, none⟩ = some (.slice a3 l3 c3) ∧ V.cell? ⟨w.heap.size + 1, 2, none⟩ = some (.bool n4) ∧ V.cell? ⟨w.heap.size + 1, 3, none⟩ = some (.slice a4 l4 c4) from fun V q => ⟨bkeep q HC5.out.1, bkeep q HC5.out.2.1, bkeep q HC5.out.2.2.1, bkeep q HC5.out.2.2.2.1, bkeep q HC5.out.2.2.2.2.1, bkeep q HC5.out.2.2.2.2.2.1, bkeep q HC5.out.2.2.2.2.2.2.1, bkeep q HC5.out.2.2.2.2.2.2.2⟩)
 have hBw := Below.refl w5.heap.size w5
 obtain ⟨x0, x1, x2, x3, y0, y1, y2, y3⟩ := HC5.out
 have zx := cell_lt x0
 have zy := cell_lt y0
 go_region_held3 (fun V => V.cell? ⟨w.heap.size, 0, none⟩ = some (.bool n1) ∧ V.cell? ⟨w.heap.size, 1, none⟩ = some (.slice a1 l1 c1) ∧ V.cell? ⟨w.heap.size, 2, none⟩ = some (.bool n2) ∧ V.cell? ⟨w.heap.size, 3, none⟩ = some (.slice a2 l2 c2) ∧ V.cell? ⟨w.heap.size + 1, 0, none⟩ = some (.bool n3) ∧ V.cell? ⟨w.heap.size + 1, 1, none⟩ = some (.slice a3 l3 c3) ∧ V.cell? ⟨w.heap.size + 1, 2, none⟩ = some (.bool n4) ∧ V.cell? ⟨w.heap.size + 1, 3, none⟩ = some (.slice a4 l4 c4))
  (first | (refine HS.out _ ?_; (repeat (first|exact bzR _ _|exact hBw|refine bzD ?_|refine bzN ?_|refine bzS ?_|refine bzA ?_)); done) | fail)
  (first
   | (go_at_call 127; (with_reducible show Calls _ _ #[(.agg #[.bool n3, .slice a3 l3 c3, .bool n4, .slice a4 l4 c4])] _ _); refine (DY.out _ (bthen HB5.out ?_)).mono ?_; (repeat (first|exact bzR _ _|exact hBw|refine bzD ?_|refine bzN ?_|refine bzS ?_|refine bzA ?_)); rintro e w6 ⟨⟨u6, rfl, hu6⟩, hb6⟩; (replace hBw : Below w5.heap.size w5 w6 := bthen bZ hb6); have HU6 := hZ hu6; have hy6 := Below.refl w6.heap.size w6; obtain ⟨pn6, pa6, pl6, pc6, rfl⟩ := hu6.lit)
   | (go_at_call 51; (with_reducible show Calls _ _ #[(.agg #[.bool n1, .slice a1 l1 c1]), _] _ _); refine (P1.out _ _ (bthen HB5.out ?_) (HU6.out.keep ?_)).mono ?_; (repeat (first|exact bzR _ _|exact hBw|refine bzD ?_|refine bzN ?_|refine bzS ?_|refine bzA ?_)); (repeat (first|exact bzR _ _|exact hy6|refine bzD ?_|refine bzN ?_|refine bzS ?_|refine bzA ?_)); rintro e w7 ⟨⟨u7, rfl, hu7⟩, hb7⟩; (replace hBw : Below w5.heap.size w5 w7 := bthen bZ hb7); (replace hy6 : Below w6.heap.size w6 w7 := bthen bZ hb7); have HU7 := hZ hu7; have hy7 := Below.refl w7.heap.size w7; obtain ⟨pn7, pa7, pl7, pc7, rfl⟩ := hu7.lit)
   | (go_at_call 127; (with_reducible show Calls _ _ #[(.agg #[.bool n1, .slice a1 l1 c1, .bool n2, .slice a2 l2 c2])] _ _); refine (DX.out _ (bthen HB5.out ?_)).mono ?_; (repeat (first|exact bzR _ _|exact hBw|refine bzD ?_|refine bzN ?_|refine bzS ?_|refine bzA ?_)); rintro e w8 ⟨⟨u8, rfl, hu8⟩, hb8⟩; (replace hBw : Below w5.heap.size w5 w8 := bthen bZ hb8); (replace hy6 : Below w6.heap.size w6 w8 := bthen bZ hb8); (replace hy7 : Below w7.heap.size w7 w8 := bthen bZ hb8); have HU8 := hZ hu8; have hy8 := Below.refl w8.heap.size w8; obtain ⟨pn8, pa8, pl8, pc8, rfl⟩ := hu8.lit)
   | (go_at_call 51; refine (P2.out _ _ (bthen HB5.out ?_) (HU8.out.keep ?_)).mono ?_; (repeat (first|exact bzR _ _|exact hBw|refine bzD ?_|refine bzN ?_|refine bzS ?_|refine bzA ?_)); (repeat (first|exact bzR _ _|exact hy8|refine bzD ?_|refine bzN ?_|refine bzS ?_|refine bzA ?_)); rintro e w9 ⟨⟨u9, rfl, hu9⟩, hb9⟩; (replace hBw : Below w5.heap.size w5 w9 := bthen bZ hb9); (replace hy6 : Below w6.heap.size w6 w9 := bthen bZ hb9); (replace hy7 : Below w7.heap.size w7 w9 := bthen bZ hb9); (replace hy8 : Below w8.heap.size w8 w9 := bthen bZ hb9); have HU9 := hZ hu9; have hy9 := Below.refl w9.heap.size w9; obtain ⟨pn9, pa9, pl9, pc9, rfl⟩ := hu9.lit)
   | (go_at_call 212; refine (CM.out _ _ _ (HU7.out.keep ?_) (HU9.out.keep ?_)).mono ?_; (repeat (first|exact bzR _ _|exact hy7|refine bzD ?_|refine bzN ?_|refine bzS ?_|refine bzA ?_)); (repeat (first|exact bzR _ _|exact hy9|refine bzD ?_|refine bzN ?_|refine bzS ?_|refine bzA ?_)); rintro e w10 ⟨rfl, hb10⟩; (replace hBw : Below w5.heap.size w5 w10 := bthen bZ hb10); (replace hy6 : Below w6.heap.size w6 w10 := bthen bZ hb10); (replace hy7 : Below w7.heap.size w7 w10 := bthen bZ hb10); (replace hy8 : Below w8.heap.size w8 w10 := bthen bZ hb10); (replace hy9 : Below w9.heap.size w9 w10 := bthen bZ hb10))
   | fail)
 all_goals
  have hBf := bthen HB5.out hBw
  clear HC5 HS x0 x1 x2 x3 y0 y1 y2 y3
  go_wp2
  go_ret
  exact ⟨rfl, bZ⟩
end
section
open Num
attribute [local go_sem ↓] Go.wp_at_zero Go.wp_at_succ
theorem units_take {n R k : Nat} (h : k < R) : (unitsF n R).take k ++ [(unitsF n R).getD k []] = (unitsF n R).take (k + 1) := by
 have hl : k < (unitsF n R).length := by rw [unitsF_len]; exact h
 rw [List.take_succ_eq_append_getElem hl, List.getD_eq_getElem?_getD, List.getElem?_eq_getElem hl]; rfl
theorem rUnits_c (n : Nat) (w : World) (hn : n ≤ 65536) : Calls Tryz.prog 101 #[.int .i64 (n : Int)] w fun e w' => (∃ v, e = .returned v ∧ SetR w.heap.size w' v (unitsF n n)) ∧ Below w.heap.size w w' := by
 have hB := Below.refl w.heap.size w
 go_enter Tryz.func101, Tryz.ntmps101
 go_wp2
 go_loopw [3, 4] (fun vo x wr => ∃ k : Nat, k ≤ n ∧ x = .int .i64 k ∧ Below w.heap.size w wr ∧ Hid (SetR w.heap.size wr vo ((unitsF n n).take k))) (fun _ x _ => n - (intOf x).toNat)
 case atStart => exact ⟨0, Nat.zero_le _, rfl, hB, hZ (SetR.nil _ _)⟩
 case round =>
  obtain ⟨k, hk, rfl, hBr, hS⟩ := hrel
  by_cases hlt : k < n
  · have hltI : (k : Int) < (n : Int) := by omega
    obtain ⟨va, vc, hv⟩ := hS.out.ex
    subst hv
    have HLN := hZ (units_take (n := n) hlt)
    rw [unitsF_get hlt] at HLN
    have hll : ((unitsF n n).take k).length = k := by rw [List.length_take, unitsF_len]; omega
    obtain ⟨S, hS'⟩ : ∃ S, (unitsF n n).take k = S := ⟨_, rfl⟩
    rw [hS'] at hS HLN hll
    rw [hS']
    have HSL := hZ hll
    rw [hll]
    have hSk : Hid (SetR w.heap.size wr (.slice va k vc) S) := by rw [hll] at hS; exact hS
    have hrr := Below.refl wr.heap.size wr
    obtain ⟨f, hf⟩ : ∃ f : Nat → Rat, (fun j => if j = k then (1 : Rat) else 0) = f := ⟨_, rfl⟩
    have HF := hZ (show ∀ j, f j = if j = k then (1 : Rat) else 0 from fun j => by rw [← hf])
    rw [hf] at HLN
    clear hS hS' hll hf
    go_wp2
    go_loopw [5, 6] (fun vr x wq => ∃ j : Nat, j ≤ n ∧ x = .int .i64 j ∧ Hid (FrOwn IsQR 91 wr wq vr ((List.range j).map f))) (fun _ x _ => n - (intOf x).toNat)
    case atStart => exact ⟨0, Nat.zero_le _, rfl, hZ (FrOwn.nil _ _ hrr)⟩
    case round =>
     rename World => wq
     obtain ⟨j, hj, rfl, hO⟩ := hrel
     by_cases hlt2 : j < n
     · have hltJ : (j : Int) < (n : Int) := by omega
       have HLN2 := hZ (range_snocQ f j)
       have HLL := hZ (show ((List.range j).map f).length + 1 ≤ 1099511627776 from by rw [List.length_map, List.length_range]; omega)
       obtain ⟨L, hL⟩ : ∃ L, (List.range j).map f = L := ⟨_, rfl⟩
       rw [hL] at hO HLN2 HLL
       obtain ⟨fa, fc, hfv⟩ := hO.out.ex
       subst hfv
       have hqq := Below.refl wq.heap.size wq
       clear hL
       go_wp2_with fail
       (with_reducible refine (rqZero_c _).mono ?_)
       rintro e w5 ⟨⟨u5, rfl, hu5⟩, hb5⟩
       have hq5 : Below wq.heap.size wq w5 := bthen bZ hb5
       have HU5 := hZ hu5
       obtain ⟨m1, b1, k1, d1, m2, b2, k2, d2, rfl, -, -⟩ := hu5
       have h55 := Below.refl w5.heap.size w5
       clear hb5
       go_upto_region 10 with (fail)
       refine wp_name fun w6 hW6 => ?_
       have h56 : Below w5.heap.size w5 w6 := by rw [hW6]; repeat (first|exact bzR _ _|exact h55|refine bzD ?_|refine bzN ?_|refine bzS ?_|refine bzA ?_)
       have hcells : (w6.cell? ⟨w5.heap.size, 0, none⟩ = some (.bool m1) ∧ w6.cell? ⟨w5.heap.size, 1, none⟩ = some (.slice b1 k1 d1) ∧ w6.cell? ⟨w5.heap.size, 2, none⟩ = some (.bool m2) ∧ w6.cell? ⟨w5.heap.size, 3, none⟩ = some (.slice b2 k2 d2)) ∧ Free w6 w5.heap.size := by rw [hW6]; exact ⟨⟨cell_new rfl rfl, cell_new rfl rfl, cell_new rfl rfl, cell_new rfl rfl⟩, Free.new rfl⟩
       obtain ⟨⟨z0, z1, z2, z3⟩, hfr⟩ := hcells
       have HU6 := hZ (HU5.out.keep h56)
       have hq6 : Below wq.heap.size wq w6 := bthen hq5 h56
       obtain ⟨XB, hXB⟩ : ∃ XB, w5.heap.size = XB := ⟨_, rfl⟩
       have hXq : wq.heap.size ≤ XB := by rw [← hXB]; exact hq5.size
       rw [hXB] at z0 z1 z2 z3 hfr ⊢
       have zz := cell_lt z0
       clear hW6 hXB HU5 hq5 h56 h55
       by_cases hkj : k = j
       · have hdk : ((k : Int) == (j : Int)) = true := by simp [hkj]
         have HFJ := hZ (show f j = 1 from by rw [HF.out, if_pos hkj.symm])
         have h66 := Below.refl w6.heap.size w6
         clear hkj
         go_wp2_with fail
         (with_reducible refine (rof_c 1 _ (by omega) (by omega)).mono ?_)
         rintro e w7 ⟨⟨u7, rfl, hu7⟩, hb7⟩
         have h67 : Below w6.heap.size w6 w7 := bthen bZ hb7
         have h77 := Below.refl w7.heap.size w7
         have WC := hZ (fun V (q : Below w7.heap.size w7 V) => rqWhole_c u7 1 V (hu7.keep q))
         clear hb7 hu7
         go_wp2_with fail
         (with_reducible refine (WC.out _ ?_).mono ?_); (repeat (first|exact bzR _ _|exact h77|refine bzD ?_|refine bzN ?_|refine bzS ?_|refine bzA ?_))
         rintro e w8 ⟨⟨u8, rfl, hu8⟩, hb8⟩
         have h68 : Below w6.heap.size w6 w8 := bthen h67 (bthen bZ hb8)
         have y0 := bkeep h68 z0
         have y1 := bkeep h68 z1
         have y2 := bkeep h68 z2
         have y3 := bkeep h68 z3
         have f0 := (hfr.keep h68).2 0
         have f1 := (hfr.keep h68).2 1
         have f2 := (hfr.keep h68).2 2
         have f3 := (hfr.keep h68).2 3
         have zy := cell_lt y0
         have HU8 := hZ hu8
         obtain ⟨m3, b3, k3, d3, m4, b4, k4, d4, rfl, -, -⟩ := hu8
         have HQ8 := hZ (bthen hq6 h68)
         clear hb8 WC h77 h66 z0 z1 z2 z3 h67 h68
         go_upto_region 12 with (fail)
         refine wp_name fun w9 hW9 => ?_
         have hq9 : Below wq.heap.size wq w9 := by rw [hW9]; exact bset (bset (bset (bset HQ8.out (p := ⟨XB, 0, none⟩) hXq _) (p := ⟨XB, 1, none⟩) hXq _) (p := ⟨XB, 2, none⟩) hXq _) (p := ⟨XB, 3, none⟩) hXq _
         have HU9 := hZ (show IsQR w9 _ 1 from by rw [hW9]; exact HU8.out.put4 y0 y1 y2 y3 (.bool m3) (.slice b3 k3 d3) (.bool m4) (.slice b4 k4 d4))
         have x0 : w9.cell? ⟨XB, 0, none⟩ = some (.bool m3) := by rw [hW9]; exact cell_far (cell_far (cell_far (cell_here y0 _) (by simp) _) (by simp) _) (by simp) _
         have x1 : w9.cell? ⟨XB, 1, none⟩ = some (.slice b3 k3 d3) := by rw [hW9]; exact cell_far (cell_far (cell_here (cell_far y1 (by simp) _) _) (by simp) _) (by simp) _
         have x2 : w9.cell? ⟨XB, 2, none⟩ = some (.bool m4) := by rw [hW9]; exact cell_far (cell_here (cell_far (cell_far y2 (by simp) _) (by simp) _) _) (by simp) _
         have x3 : w9.cell? ⟨XB, 3, none⟩ = some (.slice b4 k4 d4) := by rw [hW9]; exact cell_here (cell_far (cell_far (cell_far y3 (by simp) _) (by simp) _) (by simp) _) _
         have zx := cell_lt x0
         have HO9 := hZ (hO.out.below frk_ref hq9)
         clear hW9 y0 y1 y2 y3 HU8
         go_wp2_with (at_builtin; refine app_q elRW (by decide) frk_ref (by rfl) (by rfl) HO9.out HU9.out (by rfl) (by rfl) HLL.out ?_)
         intro v' w10 hO10 _ _
         have HO10 := hZ hO10
         rw [show (1 : Rat) = f j from HFJ.out.symm, HLN2.out] at HO10
         clear hO10
         go_wp2
         exact ⟨⟨j + 1, hlt2, by go_num, HO10⟩, meas hlt2 (by go_num) rfl⟩
       · have hdk : ((k : Int) == (j : Int)) = false := by simp; omega
         have HFJ := hZ (show f j = 0 from by rw [HF.out, if_neg (fun e => hkj e.symm)])
         have HO9 := hZ (hO.out.below frk_ref hq6)
         clear hkj
         go_wp2_with (at_builtin; refine app_q elRW (by decide) frk_ref (by rfl) (by rfl) HO9.out HU6.out (by rfl) (by rfl) HLL.out ?_)
         intro v' w10 hO10 _ _
         have HO10 := hZ hO10
         rw [show (0 : Rat) = f j from HFJ.out.symm, HLN2.out] at HO10
         clear hO10
         go_wp2
         exact ⟨⟨j + 1, hlt2, by go_num, HO10⟩, meas hlt2 (by go_num) rfl⟩
     · obtain rfl : j = n := by omega
       have hltJ : ¬ (j : Int) < (j : Int) := by omega
       have hbq := hO.out.bel
       have HRW := hZ (show FR wq _ ((List.range j).map f) from FrRow.rebase hO.out.row (Nat.zero_le _))
       have HSQ := hZ (hSk.out.keep hbq)
       have HLL := hZ (show S.length + 1 ≤ 1099511627776 from by rw [HSL.out]; omega)
       obtain ⟨L, hL⟩ : ∃ L, (List.range j).map f = L := ⟨_, rfl⟩
       rw [hL] at hO HRW HLN
       obtain ⟨fa, fc, hfv⟩ := hO.out.ex
       subst hfv
       have hBq := bthen hBr hbq
       have HBZ := hZ hBq.size
       obtain ⟨N, hN⟩ : ∃ N, L.length = N := ⟨_, rfl⟩
       rw [hN] at HRW ⊢
       clear hL hO hbq hN hSk
       go_wp2_with (at_builtin; refine app_R (by rfl) (by rfl) HSQ.out HRW.out HBZ.out (by rfl) (by rfl) HLL.out ?_)
       intro v' w11 hS11 ho11 hk11
       have HS11 := hZ hS11
       rw [HLN.out] at HS11
       have hB11 : Below w.heap.size w w11 := hBq.trans (ho11.to_below (fun q hq hx e => by have := HSQ.out.lt q e; omega) hBq.size)
       clear hS11 ho11 hk11
       go_wp2
       exact ⟨⟨k + 1, hlt, by go_num, hB11, HS11⟩, meas hlt (by go_num) rfl⟩
  · obtain rfl : k = n := by omega
    have hltI : ¬ (k : Int) < (k : Int) := by omega
    rw [List.take_of_length_le (by rw [unitsF_len]; exact Nat.le_refl _)] at hS
    obtain ⟨va, vc, hv⟩ := hS.out.ex
    subst hv
    rw [unitsF_len] at hS ⊢
    go_wp2
    go_ret
    exact ⟨⟨_, rfl, hS.out⟩, bZ⟩
end
section
open Num
attribute [local go_sem ↓] Go.wp_at_zero Go.wp_at_succ
theorem ext_units {n R : Nat} (h : n ≤ R) : extF (unitsF n n) R n = unitsF n R := by
 unfold extF
 conv => rhs; unfold unitsF
 apply List.map_congr_left
 intro k hk
 apply List.map_congr_left
 intro j hj
 rw [List.mem_range] at hk hj
 rw [unitsF_len]
 by_cases e : k < n
 · rw [if_pos e, unitsF_at e hj]
 · rw [if_neg e, if_neg (by omega)]
def RowsRR (ins regs : Int) (code : List Ins) (outs : List Int) (base : Nat) (w' : World) (vs vo : Value) (q : Int) : Prop :=
 (¬ ProgOk ins regs code outs ∧ q = 80 ∧ vs = .slice none 0 0 ∧ vo = .slice none 0 0) ∨
 (ProgOk ins regs code outs ∧ ∃ m, ToldF code (unitsF ins.toNat regs.toNat) m ∧ SetR base w' vs ((List.range m).map (toldQ code (unitsF ins.toNat regs.toNat))) ∧
  ((endF ins regs code = none ∧ q = 3 ∧ vo = .slice none 0 0) ∨ (∃ h, endF ins regs code = some h ∧ q = 0 ∧ SetR base w' vo (outsF outs h))))
def RowsRP (ins regs : Int) (code : List Ins) (outs : List Int) (w : World) (e : Ending) (w' : World) : Prop := (∃ vs vo q, e = .returned (.tuple #[vs, vo, .int .i64 q]) ∧ RowsRR ins regs code outs w.heap.size w' vs vo q) ∧ Below w.heap.size w w'
theorem rRows_c (ins regs : Int) (ca oa : Option Addr) (cc oc : Nat) (code : List Ins) (outs : List Int) (w : World) (hc : InsV w ca cc code) (ho : IntsV w oa oc outs) :
 Calls Tryz.prog 18 #[.agg #[.int .i64 ins, .int .i64 regs, .slice ca code.length cc, .slice oa outs.length oc]] w (RowsRP ins regs code outs w) := by
 have HC := hZ (And.intro hc ho)
 clear hc ho
 have hB := Below.refl w.heap.size w
 by_cases hp : ProgOk ins regs code outs
 rotate_left
 · have RC := hZ (fun V (q : Below w.heap.size w V) => right_noR (HC.out.1.keep q) (HC.out.2.keep q) hp)
   have HNO := hZ hp
   clear hp
   go_enter Tryz.func18, Tryz.ntmps18
   go_wp2_with fail
   (with_reducible refine (RC.out _ ?_).mono ?_); (repeat (first|exact bzR _ _|exact hB|refine bzD ?_|refine bzN ?_|refine bzS ?_|refine bzA ?_))
   rintro e w1 ⟨rfl, hb1⟩
   have hB1 : Below w.heap.size w w1 := bthen bZ hb1
   clear RC hb1
   go_wp2
   refine bodyPost_ret (v := .tuple #[.slice none 0 0, .slice none 0 0, .int .i64 80]) (by simp [results, Tryz.results18, go_sem]) rfl ⟨⟨_, _, _, rfl, .inl ⟨HNO.out, rfl, rfl, rfl⟩⟩, ?_⟩
   repeat exact bZ
 have RC := hZ (fun V (q : Below w.heap.size w V) => right_yesR (HC.out.1.keep q) (HC.out.2.keep q) hp)
 have i1 := hp.i1
 have i2 := hp.i2
 have r1 := hp.r1
 obtain ⟨n, rfl⟩ : ∃ n : Nat, ins = n := ⟨ins.toNat, by omega⟩
 obtain ⟨R, rfl⟩ : ∃ R : Nat, regs = R := ⟨regs.toNat, by omega⟩
 have HRUN := hZ (fun vin b0 V (q : Below w.heap.size w V) (hin : SetR b0 V vin (unitsF n n)) => (show Calls Tryz.prog 100 #[.agg #[.int .i64 (n : Int), .int .i64 (R : Int), .slice ca code.length cc, .slice oa outs.length oc], vin, .int .i64 (n : Int)] V (fun e w' => (∃ vs vo b, e = .returned (.tuple #[vs, vo, .bool b]) ∧ RunRF code outs (unitsF n R) V.heap.size w' vs vo b) ∧ Below V.heap.size V w') from by
  have h := rRun_c (n : Int) R n ca oa cc oc code outs vin (unitsF n n) b0 V (HC.out.1.keep q) (HC.out.2.keep q) hin (fun m hm => by have := ins_ofF hp hm; rwa [Int.toNat_natCast] at this) hp.os (by omega) (by omega) (by rw [unitsF_len]; omega) (unitsF_rect n n) (by rw [ext_units (by omega)]; exact unitsF_slim n R) (by omega) hp.c1 hp.o2
  rw [ext_units (by omega)] at h
  exact h.mono fun e w' k => k.form))
 have HFIN := hZ (fun (w' : World) (vs vo : Value) (q : Int) (base : Nat) (h : ∃ m, ToldF code (unitsF n R) m ∧ SetR base w' vs ((List.range m).map (toldQ code (unitsF n R))) ∧ ((afterF code (unitsF n R) code.length = none ∧ q = 3 ∧ vo = .slice none 0 0) ∨ (∃ h, afterF code (unitsF n R) code.length = some h ∧ q = 0 ∧ SetR base w' vo (outsF outs h)))) => (show RowsRR (n : Int) (R : Int) code outs base w' vs vo q from .inr ⟨hp, by
  unfold endF
  rw [Int.toNat_natCast, Int.toNat_natCast]
  exact h⟩))
 have hn64 : n ≤ 65536 := by omega
 clear hp i1 i2 r1
 go_enter Tryz.func18, Tryz.ntmps18
 go_wp2_with fail
 (with_reducible refine (RC.out _ ?_).mono ?_); (repeat (first|exact bzR _ _|exact hB|refine bzD ?_|refine bzN ?_|refine bzS ?_|refine bzA ?_))
 rintro e w1 ⟨rfl, hb1⟩
 have p0 : w1.cell? ⟨w.heap.size, 0, none⟩ = some (.int .i64 (n : Int)) := bkc hb1
 have zp0 := cell_lt p0
 have p1 : w1.cell? ⟨w.heap.size, 1, none⟩ = some (.int .i64 (R : Int)) := bkc hb1
 have p2 : w1.cell? ⟨w.heap.size, 2, none⟩ = some (.slice ca code.length cc) := bkc hb1
 have p3 : w1.cell? ⟨w.heap.size, 3, none⟩ = some (.slice oa outs.length oc) := bkc hb1
 have hB : Below w.heap.size w w1 := bthen bZ hb1
 have hz := hB.size
 have HB1 := hZ hB
 have HS := hZ (show ∀ W, Below w1.heap.size w1 W → W.cell? ⟨w.heap.size, 0, none⟩ = some (.int .i64 (n : Int)) ∧ W.cell? ⟨w.heap.size, 1, none⟩ = some (.int .i64 (R : Int)) ∧ W.cell? ⟨w.heap.size, 2, none⟩ = some (.slice ca code.length cc) ∧ W.cell? ⟨w.heap.size, 3, none⟩ = some (.slice oa outs.length oc) from fun W q => ⟨bkeep q p0, bkeep q p1, bkeep q p2, bkeep q p3⟩)
 have hBw := Below.refl w1.heap.size w1
 clear RC hb1
 go_wp2
 go_region_held3 (fun W => W.cell? ⟨w.heap.size, 0, none⟩ = some (.int .i64 (n : Int)) ∧ W.cell? ⟨w.heap.size, 1, none⟩ = some (.int .i64 (R : Int)) ∧ W.cell? ⟨w.heap.size, 2, none⟩ = some (.slice ca code.length cc) ∧ W.cell? ⟨w.heap.size, 3, none⟩ = some (.slice oa outs.length oc))
  (first | (refine HS.out _ ?_; (repeat (first|exact bzR _ _|exact hBw|refine bzD ?_|refine bzN ?_|refine bzS ?_|refine bzA ?_)); done) | fail)
  (first
  | (go_at_call 101; (with_reducible refine (rUnits_c n _ hn64).mono ?_); rintro e w2 ⟨⟨v2, rfl, hv2⟩, hb2⟩; (replace hBw : Below w1.heap.size w1 w2 := bthen bZ hb2); have HV2 := hZ hv2; have hy2 := Below.refl w2.heap.size w2)
  | (go_at_call 100; (with_reducible refine (HRUN.out _ _ _ (bthen HB1.out ?_) (HV2.out.keep ?_)).mono ?_); (repeat (first|exact bzR _ _|exact hBw|refine bzD ?_|refine bzN ?_|refine bzS ?_|refine bzA ?_)); (repeat (first|exact bzR _ _|exact hy2|refine bzD ?_|refine bzN ?_|refine bzS ?_|refine bzA ?_)); rintro e w3 ⟨⟨vs, vo, b3, rfl, h3⟩, hb3⟩; have hv3 := hBw.size; (replace hBw : Below w1.heap.size w1 w3 := bthen bZ hb3); have H3 := hZ h3; clear h3)
  | fail)
 all_goals
  have hBf := bthen HB1.out hBw
  have hzw : w.heap.size ≤ w2.heap.size := Nat.le_trans HB1.out.size (by omega)
  obtain ⟨mm, ht, hs, hcase⟩ := H3.out
  obtain ⟨sa, sc, rfl⟩ := hs.ex
  rcases hcase with ⟨h, hend, rfl, hvo⟩ | ⟨hend, rfl, rfl⟩
  · obtain ⟨oa3, oc3, rfl⟩ := hvo.ex
    have HX := hZ (HFIN.out w3 _ _ 0 w.heap.size ⟨mm, ht, hs.rebase hzw, .inr ⟨h, hend, rfl, hvo.rebase hzw⟩⟩)
    obtain ⟨l1, hl1⟩ : ∃ l, ((List.range mm).map (toldQ code (unitsF n R))).length = l := ⟨_, rfl⟩
    obtain ⟨l2, hl2⟩ : ∃ l, (outsF outs h).length = l := ⟨_, rfl⟩
    rw [hl1, hl2] at HX
    rw [hl1, hl2]
    clear ht hs hend hvo hl1 hl2 H3 HFIN
    go_wp2
    refine bodyPost_ret (v := .tuple #[.slice sa l1 sc, .slice oa3 l2 oc3, .int .i64 0]) (by simp [results, Tryz.results18, go_sem]) rfl ⟨⟨_, _, _, rfl, HX.out⟩, ?_⟩
    repeat exact bZ
  · have HX := hZ (HFIN.out w3 _ _ 3 w.heap.size ⟨mm, ht, hs.rebase hzw, .inl ⟨hend, rfl, rfl⟩⟩)
    obtain ⟨l1, hl1⟩ : ∃ l, ((List.range mm).map (toldQ code (unitsF n R))).length = l := ⟨_, rfl⟩
    rw [hl1] at HX
    rw [hl1]
    clear ht hs hend hl1 H3 HFIN
    go_wp2
    refine bodyPost_ret (v := .tuple #[.slice sa l1 sc, .slice none 0 0, .int .i64 3]) (by simp [results, Tryz.results18, go_sem]) rfl ⟨⟨_, _, _, rfl, HX.out⟩, ?_⟩
    repeat exact bZ
end
section
open Num
attribute [local go_sem ↓] Go.wp_at_zero Go.wp_at_succ
def AtPost (n m : Nat) (g : Grid) (i j : Int) (w : World) (e : Ending) (w' : World) : Prop :=
 ((0 ≤ i ∧ i < n ∧ 0 ≤ j ∧ j < m ∧ ∃ u, e = .returned (.tuple #[u, .int .i64 0]) ∧ IsInt w' u (gat g i.toNat j.toNat)) ∨ (¬ (0 ≤ i ∧ i < n ∧ 0 ≤ j ∧ j < m) ∧ e = .returned (.tuple #[.agg #[.bool false, .slice none 0 0], .int .i64 5]))) ∧ Below w.heap.size w w'
theorem AtPost.no {n m : Nat} {g : Grid} {i j : Int} {w w' : World} (h : ¬ (0 ≤ i ∧ i < n ∧ 0 ≤ j ∧ j < m)) (hb : Below w.heap.size w w') : AtPost n m g i j w (.returned (.tuple #[.agg #[.bool false, .slice none 0 0], .int .i64 5])) w' := ⟨.inr ⟨h, rfl⟩, hb⟩
theorem AtPost.yes {n m i j : Nat} {g : Grid} {w w' : World} {u : Value} (hi : i < n) (hj : j < m) (hu : IsInt w' u (gat g i j)) (hb : Below w.heap.size w w') : AtPost n m g (i : Int) (j : Int) w (.returned (.tuple #[u, .int .i64 0])) w' := ⟨.inl ⟨by omega, by omega, by omega, by omega, u, rfl, hu⟩, hb⟩
theorem at_c (v : Value) (g : Grid) (i j : Int) (w : World) (hv : IsM 0 w v g) (hr : Rct g (cols g)) :
 Calls Tryz.prog 30 #[v, .int .i64 i, .int .i64 j] w (AtPost g.length (cols g) g i j w) := by
 have HV := hZ hv
 have HRC := hZ hr
 obtain ⟨a, c, rfl, hl⟩ := hv
 obtain ⟨n, hn⟩ : ∃ n, g.length = n := ⟨_, rfl⟩
 obtain ⟨m, hm⟩ : ∃ m, cols g = m := ⟨_, rfl⟩
 have HNM := hZ (And.intro hn hm)
 have CC := hZ (fun W (q : Below w.heap.size w W) => colsM_c a c g W (hl.keep (prs_prow 0) q))
 rw [hn, hm] at CC
 rw [hn, hm]
 have RC := hZ (fun W => rowsM_c a n c W)
 have hB := Below.refl w.heap.size w
 clear hl hr hn hm
 by_cases h1 : i < 0
 · have HNO := hZ (show ¬ (0 ≤ i ∧ i < n ∧ 0 ≤ j ∧ j < m) by omega)
   clear CC RC
   go_enter Tryz.func30, Tryz.ntmps30
   go_wp2
   refine bodyPost_ret (v := .tuple #[.agg #[.bool false, .slice none 0 0], .int .i64 5]) (by simp [results, Tryz.results30, go_sem, *]) rfl (.no HNO.out ?_)
   repeat exact bZ
 by_cases h2 : j < 0
 · have HNO := hZ (show ¬ (0 ≤ i ∧ i < n ∧ 0 ≤ j ∧ j < m) by omega)
   clear CC RC
   go_enter Tryz.func30, Tryz.ntmps30
   go_wp2
   refine bodyPost_ret (v := .tuple #[.agg #[.bool false, .slice none 0 0], .int .i64 5]) (by simp [results, Tryz.results30, go_sem, *]) rfl (.no HNO.out ?_)
   repeat exact bZ
 obtain ⟨i', hi'⟩ := Int.eq_ofNat_of_zero_le (show 0 ≤ i by omega)
 obtain ⟨j', hj'⟩ := Int.eq_ofNat_of_zero_le (show 0 ≤ j by omega)
 subst hi' hj'
 have h1' : ¬ (i' : Int) < 0 := by omega
 have h2' : ¬ (j' : Int) < 0 := by omega
 clear h1 h2
 by_cases h3 : i' < n
 rotate_left
 · have hI : (n : Int) ≤ (i' : Int) := by omega
   have HNO := hZ (show ¬ (0 ≤ (i' : Int) ∧ (i' : Int) < n ∧ 0 ≤ (j' : Int) ∧ (j' : Int) < m) by omega)
   clear CC h3
   go_enter Tryz.func30, Tryz.ntmps30
   go_wp2_with fail
   (with_reducible refine (RC.out _).mono ?_)
   rintro e w1 ⟨rfl, hb1⟩
   have b0 : w1.cell? ⟨w.heap.size, 0, none⟩ = some (.slice a n c) := bkc hb1
   have zb0 := cell_lt b0
   have r0 : w1.cell? ⟨w.heap.size + 1, 0, none⟩ = some (.bool false) := bkc hb1
   have zr0 := cell_lt r0
   have r0f : w1.frozen? ⟨w.heap.size + 1, 0, none⟩ = false := bkcf (v := .bool false) hb1
   have r1 : w1.cell? ⟨w.heap.size + 1, 1, none⟩ = some (.slice none 0 0) := bkc hb1
   have r1f : w1.frozen? ⟨w.heap.size + 1, 1, none⟩ = false := bkcf (v := .slice none 0 0) hb1
   have hB : Below w.heap.size w w1 := bthen bZ hb1
   have hz := hB.size
   go_wp2
   refine bodyPost_ret (v := .tuple #[.agg #[.bool false, .slice none 0 0], .int .i64 5]) (by simp [results, Tryz.results30, go_sem, *]) rfl (.no HNO.out ?_)
   repeat exact bZ
 have hI3 : ¬ (n : Int) ≤ (i' : Int) := by omega
 by_cases h4 : j' < m
 rotate_left
 · have hI : (m : Int) ≤ (j' : Int) := by omega
   have HNO := hZ (show ¬ (0 ≤ (i' : Int) ∧ (i' : Int) < n ∧ 0 ≤ (j' : Int) ∧ (j' : Int) < m) by omega)
   clear h4
   go_enter Tryz.func30, Tryz.ntmps30
   go_wp2_with fail
   (with_reducible refine (RC.out _).mono ?_)
   rintro e w1 ⟨rfl, hb1⟩
   have b0 : w1.cell? ⟨w.heap.size, 0, none⟩ = some (.slice a n c) := bkc hb1
   have zb0 := cell_lt b0
   have r0 : w1.cell? ⟨w.heap.size + 1, 0, none⟩ = some (.bool false) := bkc hb1
   have zr0 := cell_lt r0
   have r0f : w1.frozen? ⟨w.heap.size + 1, 0, none⟩ = false := bkcf (v := .bool false) hb1
   have r1 : w1.cell? ⟨w.heap.size + 1, 1, none⟩ = some (.slice none 0 0) := bkc hb1
   have r1f : w1.frozen? ⟨w.heap.size + 1, 1, none⟩ = false := bkcf (v := .slice none 0 0) hb1
   have hB : Below w.heap.size w w1 := bthen bZ hb1
   have hz := hB.size
   go_wp2_with fail
   (with_reducible refine (CC.out _ ?_).mono ?_); (repeat (first|exact bzR _ _|exact hB|refine bzD ?_|refine bzN ?_|refine bzS ?_|refine bzA ?_))
   rintro e w2 ⟨rfl, hb2⟩
   have b0 : w2.cell? ⟨w.heap.size, 0, none⟩ = some (.slice a n c) := bkc hb2
   have zb0 := cell_lt b0
   have r0 : w2.cell? ⟨w.heap.size + 1, 0, none⟩ = some (.bool false) := bkc hb2
   have zr0 := cell_lt r0
   have r0f : w2.frozen? ⟨w.heap.size + 1, 0, none⟩ = false := bkcf (v := .bool false) hb2
   have r1 : w2.cell? ⟨w.heap.size + 1, 1, none⟩ = some (.slice none 0 0) := bkc hb2
   have r1f : w2.frozen? ⟨w.heap.size + 1, 1, none⟩ = false := bkcf (v := .slice none 0 0) hb2
   have hB : Below w.heap.size w w2 := bthen bZ hb2
   have hz := hB.size
   go_wp2
   refine bodyPost_ret (v := .tuple #[.agg #[.bool false, .slice none 0 0], .int .i64 5]) (by simp [results, Tryz.results30, go_sem, *]) rfl (.no HNO.out ?_)
   repeat exact bZ
 have hI4 : ¬ (m : Int) ≤ (j' : Int) := by omega
 have hI5 : (i' : Int) < (n : Int) := by omega
 have hI6 : (j' : Int) < (m : Int) := by omega
 have HIJ := hZ (And.intro h3 h4)
 clear h3 h4
 go_enter Tryz.func30, Tryz.ntmps30
 go_wp2_with fail
 (with_reducible refine (RC.out _).mono ?_)
 rintro e w1 ⟨rfl, hb1⟩
 have b0 : w1.cell? ⟨w.heap.size, 0, none⟩ = some (.slice a n c) := bkc hb1
 have zb0 := cell_lt b0
 have r0 : w1.cell? ⟨w.heap.size + 1, 0, none⟩ = some (.bool false) := bkc hb1
 have zr0 := cell_lt r0
 have r0f : w1.frozen? ⟨w.heap.size + 1, 0, none⟩ = false := bkcf (v := .bool false) hb1
 have r1 : w1.cell? ⟨w.heap.size + 1, 1, none⟩ = some (.slice none 0 0) := bkc hb1
 have r1f : w1.frozen? ⟨w.heap.size + 1, 1, none⟩ = false := bkcf (v := .slice none 0 0) hb1
 have hB : Below w.heap.size w w1 := bthen bZ hb1
 have hz := hB.size
 go_wp2_with fail
 (with_reducible refine (CC.out _ ?_).mono ?_); (repeat (first|exact bzR _ _|exact hB|refine bzD ?_|refine bzN ?_|refine bzS ?_|refine bzA ?_))
 rintro e w2 ⟨rfl, hb2⟩
 have b0 : w2.cell? ⟨w.heap.size, 0, none⟩ = some (.slice a n c) := bkc hb2
 have zb0 := cell_lt b0
 have r0 : w2.cell? ⟨w.heap.size + 1, 0, none⟩ = some (.bool false) := bkc hb2
 have zr0 := cell_lt r0
 have r0f : w2.frozen? ⟨w.heap.size + 1, 0, none⟩ = false := bkcf (v := .bool false) hb2
 have r1 : w2.cell? ⟨w.heap.size + 1, 1, none⟩ = some (.slice none 0 0) := bkc hb2
 have r1f : w2.frozen? ⟨w.heap.size + 1, 1, none⟩ = false := bkcf (v := .slice none 0 0) hb2
 have hB : Below w.heap.size w w2 := bthen bZ hb2
 have hz := hB.size
 clear hb1 hb2 CC RC
 obtain ⟨_, _, e0, hu⟩ := HV.out.keep hB
 cases e0
 rw [HNM.out.1] at hu
 obtain ⟨gc2, gb, go, ra, rc, e2, hru, hrp⟩ := hu.row (i := i') (by rw [HNM.out.1]; exact HIJ.out.1)
 obtain ⟨rfl, -, rfl⟩ := Value.slice.inj e2
 obtain ⟨_, _, e3, -, vr⟩ := hrp.view
 have hrl : (g.getD i' []).length = m := by rw [HRC.out i' (by rw [HNM.out.1]; exact HIJ.out.1), HNM.out.2]
 rw [hrl] at hru e3
 obtain ⟨rfl, -, rfl⟩ := Value.slice.inj e3
 obtain ⟨rb, ro, en, ea, el, ec, e4, d0, d1, hx⟩ := vr j' (by rw [hrl]; exact HIJ.out.2)
 subst e4
 have zu := cell_lt hru
 have zd := cell_lt d0
 have HX := hZ (show IsInt w2 (.agg #[.bool en, .slice ea el ec]) (gat g i' j') from hx)
 have hp := hZ (HX.out.put2 r0 r1)
 clear hx vr hrp hu hrl
 go_wp2
 refine bodyPost_ret (v := .tuple #[.agg #[.bool en, .slice ea el ec], .int .i64 0]) (by simp [results, Tryz.results30, go_sem, *]) rfl (.yes HIJ.out.1 HIJ.out.2 (hp.out _ _) ?_)
 repeat exact bZ
end
end Go.Proofs.YtbmaffijncapiaaGreatDoor
