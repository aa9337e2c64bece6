/- Texts of this seat, laid together: MxB, MxC, MxD, Bel, Bed, MxE, MxF, MxG, MxH, MxI, MxJ, MxK. Each opens with its own remark, which says what it proves, and under which conditions. -/
import Derived.Test.YtbmaffijncapiaaGreatDoorL13
import Derived.Deep.RegionLaw
import Derived.StillTailTactics
import Derived.Test.YtbmaffijncapiaaGreatDoorL09
import Derived.Test.YtbmaffijncapiaaGreatDoorL06
import Derived.Test.YtbmaffijncapiaaGreatDoorL02
import Derived.Deep.DeepFit
import Derived.Deep.DeepCutAuto
import Derived.Lib.AppendZeros
set_option linter.unusedVariables false
set_option linter.unusedSimpArgs false
/- matrix: Rows, Cols, square, Identity; a matrix in a variable. -/
namespace Go.Proofs.YtbmaffijncapiaaGreatDoor
open Num
open Go.ChangeShapes Go.WideShapes Go.ChangeAt Go.RowKit
set_option linter.unusedVariables false
set_option linter.unusedSimpArgs false
attribute [local go_sem ↓] Go.wp_at_zero Go.wp_at_succ
def gat (g : Grid) (i j : Nat) : Int := (g.getD i []).getD j 0
def cols (g : Grid) : Nat := (g.getD 0 []).length
def Rct (g : Grid) (m : Nat) : Prop := ∀ i, i < g.length → (g.getD i []).length = m
theorem Rct.cols {g : Grid} {m : Nat} (h : Rct g m) (hg : 0 < g.length) : cols g = m := h 0 hg
theorem IsM.lit {base : Nat} {w : World} {v : Value} {g : Grid} (h : IsM base w v g) : ∃ a c, v = .agg #[.slice a g.length c] := by obtain ⟨a, c, e, _⟩ := h; exact ⟨a, c, e⟩
def BoxM (b : Nat) (w : World) (g : Grid) : Prop := ∃ a c, w.cell? ⟨b, 0, none⟩ = some (.slice a g.length c) ∧ IsL 68 (PRow 0) 0 w (.slice a g.length c) g
theorem BoxM.keep {b : Nat} {w w' : World} {g : Grid} (h : BoxM b w g) (k : Below w.heap.size w w') : BoxM b w' g := by
  obtain ⟨a, c, e, h⟩ := h; exact ⟨a, c, bkeep k e, h.keep (prs_prow 0) k⟩
theorem IsL.row {base : Nat} {w : World} {v : Value} {g : Grid} (h : IsL 68 (PRow base) base w v g) {i : Nat} (hi : i < g.length) :
    ∃ c gb go ra rc, v = .slice (some ⟨gb, go, none⟩) g.length c ∧ w.cell? ⟨gb, go + i, none⟩ = some (.slice ra (g.getD i []).length rc) ∧ PRow base w (.slice ra (g.getD i []).length rc) (g.getD i []) := by
  obtain ⟨a, c, e, _, hv⟩ := h.view
  obtain ⟨gb, go, u, rfl, hu, hr⟩ := hv i hi
  have e2 : g[i] = g.getD i [] := by simp [hi]
  rw [e2] at hr
  have hr2 := hr
  obtain ⟨ra, rc, rfl, _⟩ := hr2
  exact ⟨c, gb, go, ra, rc, e, hu, hr⟩
set_option maxRecDepth 100000 in
theorem rowsM_c (a : Option Addr) (n c : Nat) (w : World) : Calls Tryz.prog 24 #[.agg #[.slice a n c]] w fun e w' => e = .returned (.int .i64 (n : Nat)) ∧ Below w.heap.size w w' := by
  have hB := Below.refl w.heap.size w
  go_enter Tryz.func24, Tryz.ntmps24
  go_wp2
  go_ret
  exact ⟨rfl, by repeat (first|exact bzR _ _|exact hB|refine bzD ?_|refine bzN ?_|refine bzS ?_|refine bzA ?_)⟩
set_option maxRecDepth 100000 in
set_option maxHeartbeats 1000000 in
theorem colsM_c (a : Option Addr) (c : Nat) (g : Grid) (w : World) (h : IsL 68 (PRow 0) 0 w (.slice a g.length c) g) : Calls Tryz.prog 27 #[.agg #[.slice a g.length c]] w fun e w' => e = .returned (.int .i64 (cols g : Nat)) ∧ Below w.heap.size w w' := by
  have hB := Below.refl w.heap.size w
  by_cases h0 : g.length = 0
  · have hg : g = [] := List.length_eq_zero_iff.1 h0
    subst hg
    have e : cols [] = 0 := rfl
    rw [e]
    clear h e h0
    rw [show ([] : Grid).length = 0 from rfl]
    go_enter Tryz.func27, Tryz.ntmps27
    go_wp2
    go_ret
    exact ⟨rfl, by repeat (first|exact bzR _ _|exact hB|refine bzD ?_|refine bzN ?_|refine bzS ?_|refine bzA ?_)⟩
  · obtain ⟨c', gb, go, ra, rc, e, hu, hp⟩ := h.row (show 0 < g.length by omega)
    obtain ⟨rfl, -, rfl⟩ := Value.slice.inj e
    rw [Nat.add_zero] at hu
    have zu := cell_lt hu
    have zu2 : gb < w.heap.size + 1 := by omega
    unfold cols
    obtain ⟨m, hm⟩ : ∃ m, (g.getD 0 []).length = m := ⟨_, rfl⟩
    obtain ⟨n, hn⟩ : ∃ n, g.length = n := ⟨_, rfl⟩
    rw [hm] at hu ⊢
    rw [hn] at h0 ⊢
    have hn0 : ((n : Int) == 0) = false := by simp; omega
    have hn1 : (0 : Int) < (n : Int) := by omega
    clear h hp e hm hn
    go_enter Tryz.func27, Tryz.ntmps27
    go_wp2
    go_ret
    exact ⟨rfl, by repeat (first|exact bzR _ _|exact hB|refine bzD ?_|refine bzN ?_|refine bzS ?_|refine bzA ?_)⟩
theorem IsM.setM {base : Nat} {w : World} {v : Value} {g : Grid} (h : IsM base w v g) {p : Addr} (ht : typOf w p.block = some 47) (u : Value) : IsM base (w.setCell p u) v g := by
  obtain ⟨a, c, e, h⟩ := h
  exact ⟨a, c, e, IsL.kp (S' := fun t => t ≠ 47) (prs_prow base) h ((Kp.refl _ _).set (fun t ht' => by rw [ht] at ht'; cases ht'; exact fun h => h rfl) _) (fun t ht => by rcases ht with rfl | rfl <;> decide) (by decide)⟩
end Go.Proofs.YtbmaffijncapiaaGreatDoor

/- matrix: Plus, Scale, Turn, Times. -/
namespace Go.Proofs.YtbmaffijncapiaaGreatDoor
open Num
open Go.ChangeShapes Go.WideShapes Go.ChangeAt Go.RowKit
set_option linter.unusedVariables false
set_option linter.unusedSimpArgs false
attribute [local go_sem ↓] Go.wp_at_zero Go.wp_at_succ
def BdM (k : Nat) (g : Grid) : Prop := ∀ i j, Bd k (gat g i j)
theorem BdM.mono {k m : Nat} {g : Grid} (h : BdM k g) (hk : k ≤ m) : BdM m g := fun i j => (h i j).mono hk
end Go.Proofs.YtbmaffijncapiaaGreatDoor

/- matrix: Scale, Turn. -/
namespace Go.Proofs.YtbmaffijncapiaaGreatDoor
open Num
open Go.ChangeShapes Go.WideShapes Go.ChangeAt Go.RowKit
set_option linter.unusedVariables false
set_option linter.unusedSimpArgs false
attribute [local go_sem ↓] Go.wp_at_zero Go.wp_at_succ
end Go.Proofs.YtbmaffijncapiaaGreatDoor

/- Elimination without fractions, in plain Lean: the mirror of the program's, and what its numbers are: minors. -/
set_option linter.unusedVariables false
set_option linter.unusedSimpArgs false
namespace Det
def cst (a : Nat → Nat → Int) : M := fun i j => (a i j : Rat)
def fr (g : Nat → Nat → Int) (j : Nat) : Nat → Nat → Nat
  | 0, i => i
  | d + 1, i => if g i j = 0 then fr g j d (i + 1) else i
structure El where
  g : Nat → Nat → Int
  p : List Nat
  last : Int
  sign : Int
def elNew (g : Nat → Nat → Int) (k j : Nat) (last : Int) (r c : Nat) : Int := (g k j * g r c - g r j * g k c) / last
def bord (a : Nat → Nat → Int) (q : Nat → Nat) (p : List Nat) (k r c : Nat) : M := fun i t => (a (q (if i < k then i else r)) (if t < k then p.getD t 0 else c) : Rat)
def q2 (q : Nat → Nat) (i k : Nat) : Nat → Nat := fun r => if r = i then q k else if r = k then q i else q r
structure Inv (n m : Nat) (a : Nat → Nat → Int) (s : El) (j : Nat) (q : Nat → Nat) : Prop where
  k : s.p.length ≤ n
  q1 : ∀ i, i < n → q i < n
  q2 : ∀ i i', i < n → i' < n → q i = q i' → i = i'
  q3 : ∀ x, x < n → ∃ i, i < n ∧ q i = x
  sgn : s.sign = 1 ∨ s.sign = -1
  alt : ∀ f, Alt n f → f (fun r c => (a (q r) c : Rat)) = s.sign * f (cst a)
  nz : s.last ≠ 0
  last : (s.last : Rat) = det s.p.length fun r c => (a (q r) (s.p.getD c 0) : Rat)
  gm : ∀ r c, s.p.length ≤ r → r < n → c < m → (s.g r c : Rat) = det (s.p.length + 1) (bord a q s.p s.p.length r c)
  ze : ∀ r c, s.p.length ≤ r → r < n → c < j → s.g r c = 0
  inc : ∀ i i', i < i' → i' < s.p.length → s.p.getD i 0 < s.p.getD i' 0
  top : ∀ i, i < s.p.length → s.p.getD i 0 < j
end Det

/- Elimination without fractions, in plain Lean: the determinant, the rank, of what is turned too. -/
set_option linter.unusedVariables false
set_option linter.unusedSimpArgs false
namespace Det
end Det

/- matrix: Times. -/
namespace Go.Proofs.YtbmaffijncapiaaGreatDoor
open Num
open Go.ChangeShapes Go.WideShapes Go.ChangeAt Go.RowKit
set_option linter.unusedVariables false
set_option linter.unusedSimpArgs false
attribute [local go_sem ↓] Go.wp_at_zero Go.wp_at_succ
end Go.Proofs.YtbmaffijncapiaaGreatDoor

/- matrix: Times, square, New. -/
namespace Go.Proofs.YtbmaffijncapiaaGreatDoor
open Num
open Go.ChangeShapes Go.WideShapes Go.ChangeAt Go.RowKit
set_option linter.unusedVariables false
set_option linter.unusedSimpArgs false
attribute [local go_sem ↓] Go.wp_at_zero Go.wp_at_succ
end Go.Proofs.YtbmaffijncapiaaGreatDoor

/- matrix: New. -/
namespace Go.Proofs.YtbmaffijncapiaaGreatDoor
open Num
open Go.ChangeShapes Go.WideShapes Go.ChangeAt Go.RowKit
set_option linter.unusedVariables false
set_option linter.unusedSimpArgs false
attribute [local go_sem ↓] Go.wp_at_zero Go.wp_at_succ
structure VarMx (b : Nat) (w : World) (v : Value) : Prop where
  ty : typOf w b = some 47
  c : w.cell? ⟨b, 0, none⟩ = some v
  f : w.frozen? ⟨b, 0, none⟩ = false
theorem VarMx.keep {b : Nat} {w w' : World} {v : Value} (h : VarMx b w v) (k : Below w.heap.size w w') : VarMx b w' v := ⟨typ_keep h.ty k, bkeep k h.c, bkeepf k h.c h.f⟩
theorem VarMx.kp {b : Nat} {S : TypeId → Prop} {w w' : World} {v : Value} (h : VarMx b w v) (k : Kp S w w') (hs : S 47) : VarMx b w' v := ⟨k.typ h.ty hs, k.cell h.ty hs h.c, k.frz h.ty hs h.f⟩
theorem VarMx.set {b : Nat} {w : World} {v : Value} (h : VarMx b w v) (u : Value) : VarMx b (w.setCell ⟨b, 0, none⟩ u) u := ⟨by rw [typ_set]; exact h.ty, cell_here h.c u, by rw [World.frozen?_setCell]; exact h.f⟩
theorem VarMx.far {b : Nat} {w : World} {v : Value} (h : VarMx b w v) {p : Addr} (hp : p.block ≠ b) (u : Value) : VarMx b (w.setCell p u) v := ⟨by rw [typ_set]; exact h.ty, cell_far h.c (fun e => hp (by rw [e])) u, by rw [World.frozen?_setCell]; exact h.f⟩
def fitsE (g : Grid) : Int := if g.length = 0 ∨ cols g = 0 then 2 else if 16 < g.length ∨ 16 < cols g then 3 else if ∀ i, i < g.length → (g.getD i []).length = cols g then 0 else 5
def NewMPost (g : Grid) (w : World) (e : Ending) (w' : World) : Prop :=
  ((fitsE g = 0 ∧ ∃ v, e = .returned (.tuple #[v, .int .i64 0]) ∧ IsM w.heap.size w' v g) ∨ (fitsE g ≠ 0 ∧ e = .returned (.tuple #[.agg #[.slice none 0 0], .int .i64 (fitsE g)]))) ∧ Below w.heap.size w w'
theorem newM_no {g : Grid} {w w' : World} {k : Int} (h : fitsE g = k) (hk : k ≠ 0) (hb : Below w.heap.size w w') : NewMPost g w (.returned (.tuple #[.agg #[.slice none 0 0], .int .i64 k])) w' := by
  subst h; exact ⟨.inr ⟨hk, rfl⟩, hb⟩
theorem newM_yes {g : Grid} {w w' : World} {v : Value} (h : fitsE g = 0) (hv : IsM w.heap.size w' v g) (hb : Below w.heap.size w w') : NewMPost g w (.returned (.tuple #[v, .int .i64 0])) w' := ⟨.inl ⟨h, _, rfl, hv⟩, hb⟩
set_option maxRecDepth 100000 in
set_option maxHeartbeats 16000000 in
theorem newM_c (v : Value) (g : Grid) (w : World) (hv : IsL 68 (PRow 0) 0 w v g) (hl : ∀ i, i < g.length → (g.getD i []).length ≤ 1099511627775) :
    Calls Tryz.prog 43 #[v] w (NewMPost g w) := by
  have HV := Lib.hid hv
  obtain ⟨ga, gc, rfl, -⟩ := hv
  have hB := Below.refl w.heap.size w
  by_cases h0 : g.length = 0
  · have HEE : Hid (fitsE g = 2) := Lib.hid (by unfold fitsE; rw [if_pos (.inl h0)])
    rw [h0] at *
    have hnI : ((0 : Int) == 0) = true := rfl
    clear HV hl
    go_enter Tryz.func43, Tryz.ntmps43
    go_wp2
    refine bodyPost_ret (v := .tuple #[.agg #[.slice none 0 0], .int .i64 2]) (by simp [results, Tryz.results43, go_sem, *]) rfl (newM_no HEE.out (by decide) ?_)
    repeat (first|exact bzR _ _|exact hB|refine bzD ?_|refine bzN ?_|refine bzS ?_|refine bzA ?_)
  · obtain ⟨c', gb, go, ra, rc, e, hu, hp⟩ := HV.out.row (show 0 < g.length by omega)
    obtain ⟨rfl, -, rfl⟩ := Value.slice.inj e
    rw [Nat.add_zero] at hu
    have zu := cell_lt hu
    have zu1 : gb < w.heap.size + 1 := by omega
    have hnI : ((g.length : Int) == 0) = false := beq_eq_false_iff_ne.2 (by omega)
    have hn0 : (0 : Int) < (g.length : Int) := by omega
    have hcol : (g.getD 0 []).length = cols g := rfl
    rw [hcol] at hu
    clear hcol e hp
    obtain ⟨m, hm⟩ : ∃ m, cols g = m := ⟨_, rfl⟩
    rw [hm] at hu
    have HM := Lib.hid hm
    clear hm
    by_cases h1 : m = 0
    · subst h1
      have HEE : Hid (fitsE g = 2) := Lib.hid (by unfold fitsE; rw [if_pos (.inr HM.out)])
      clear HV hl HM
      go_enter Tryz.func43, Tryz.ntmps43
      go_wp2
      refine bodyPost_ret (v := .tuple #[.agg #[.slice none 0 0], .int .i64 2]) (by simp [results, Tryz.results43, go_sem, *]) rfl (newM_no HEE.out (by decide) ?_)
      repeat (first|exact bzR _ _|exact hB|refine bzD ?_|refine bzN ?_|refine bzS ?_|refine bzA ?_)
    · have hmI : ((m : Int) == 0) = false := by simp; omega
      have hne : ¬ (g.length = 0 ∨ cols g = 0) := by rw [HM.out]; omega
      by_cases h2 : 16 < g.length
      · have HEE : Hid (fitsE g = 3) := Lib.hid (by unfold fitsE; rw [if_neg hne, if_pos (.inl h2)])
        have hb1 : (16 : Int) < (g.length : Int) := by omega
        clear HV hl HM hne
        go_enter Tryz.func43, Tryz.ntmps43
        go_wp2
        refine bodyPost_ret (v := .tuple #[.agg #[.slice none 0 0], .int .i64 3]) (by simp [results, Tryz.results43, go_sem, *]) rfl (newM_no HEE.out (by decide) ?_)
        repeat (first|exact bzR _ _|exact hB|refine bzD ?_|refine bzN ?_|refine bzS ?_|refine bzA ?_)
      · have hb1 : ¬ (16 : Int) < (g.length : Int) := by omega
        by_cases h3 : 16 < m
        · have HEE : Hid (fitsE g = 3) := Lib.hid (by unfold fitsE; rw [if_neg hne, if_pos (.inr (by rw [HM.out]; exact h3))])
          have hb2 : (16 : Int) < (m : Int) := by omega
          clear HV hl HM hne
          go_enter Tryz.func43, Tryz.ntmps43
          go_wp2
          refine bodyPost_ret (v := .tuple #[.agg #[.slice none 0 0], .int .i64 3]) (by simp [results, Tryz.results43, go_sem, *]) rfl (newM_no HEE.out (by decide) ?_)
          repeat (first|exact bzR _ _|exact hB|refine bzD ?_|refine bzN ?_|refine bzS ?_|refine bzA ?_)
        · have hb2 : ¬ (16 : Int) < (m : Int) := by omega
          have HE := Lib.hid (show fitsE g = if ∀ i, i < g.length → (g.getD i []).length = m then 0 else 5 from by
            unfold fitsE; rw [if_neg hne, if_neg (by rw [HM.out]; omega), HM.out])
          clear hne hl
          go_enter Tryz.func43, Tryz.ntmps43
          go_wp2
          refine wp_name fun w0 hW0 => ?_
          have hB0 : Below w.heap.size w w0 := by rw [hW0]; repeat (first|exact bzR _ _|exact hB|refine bzD ?_|refine bzN ?_|refine bzS ?_|refine bzA ?_)
          have HR0 := Lib.hid (show VarMx w.heap.size w0 (.slice none 0 0) ∧ VarMx (w.heap.size + 1) w0 (.slice none 0 0) from by
            rw [hW0]
            exact ⟨⟨typ_alloc (typ_fresh rfl), by simp [go_sem], by simp [go_sem]⟩, ⟨typ_fresh (by simp), by simp [go_sem], by simp [go_sem]⟩⟩)
          clear hW0
          go_loopw [31] (fun x wr => ∃ k : Nat, k ≤ g.length ∧ x = .int .i64 k ∧ Below w.heap.size w wr ∧ Hid (VarMx w.heap.size wr (.slice none 0 0) ∧ (∃ rv, VarMx (w.heap.size + 1) wr rv ∧ OwnL 68 (PRow w.heap.size) w wr rv (g.take k))) ∧ Hid (∀ j, j < k → (g.getD j []).length = m)) (fun x _ => g.length - (intOf x).toNat)
          case atStart => exact ⟨0, Nat.zero_le _, rfl, hB0, Lib.hid ⟨HR0.out.1, _, HR0.out.2, OwnL.nil _ _ hB0⟩, Lib.hid (fun j hj => by omega)⟩
          case round =>
            obtain ⟨k, hk, rfl, hBr, hrel, hall⟩ := hrel
            obtain ⟨hR, rv, hM, hO⟩ := hrel.out
            have r0 := hR.c
            have r0f := hR.f
            have zr := cell_lt r0
            by_cases hlt : k < g.length
            · have hltI : (k : Int) < (g.length : Int) := by omega
              obtain ⟨c2, gb2, go2, ra2, rc2, e2, hu2, hp2⟩ := (HV.out.keep (prs_prow 0) hBr).row hlt
              obtain ⟨⟨rfl, rfl⟩, -, rfl⟩ : (gb = gb2 ∧ go = go2) ∧ True ∧ gc = c2 := by
                have := Value.slice.inj e2
                simp at this
                exact ⟨this.1, trivial, this.2⟩
              have hu0 := bkeep hBr hu
              have zu2 := cell_lt hu0
              have zu3 := cell_lt hu2
              obtain ⟨lk, hlk⟩ : ∃ n, (g.getD k []).length = n := ⟨_, rfl⟩
              have HP2 := Lib.hid hp2
              rw [hlk] at hu2 HP2
              have HLK := Lib.hid hlk
              clear e2 hp2 hlk
              by_cases e1 : lk = m
              · subst e1
                have hq1 : ((lk : Int) != (lk : Int)) = false := by simp
                have HAL := Lib.hid (show ∀ j, j < k + 1 → (g.getD j []).length = lk from fun j hj => by
                  by_cases e : j = k
                  · subst e; exact HLK.out
                  · exact hall.out j (by omega))
                have kcl := fun W (h : Below wr.heap.size wr W) => cloneRow_c 0 (.slice ra2 lk rc2) (g.getD k []) W (HP2.out.keep lims_int h) (by rw [HLK.out]; omega)
                have HTK := Lib.hid (take_getD [] hlt)
                obtain ⟨row, hrow⟩ : ∃ row, g.getD k [] = row := ⟨_, rfl⟩
                rw [hrow] at HTK kcl
                clear hrow
                have hlen : (g.take k).length = k := by rw [List.length_take]; omega
                obtain ⟨oa, oc, hrv⟩ := hO.ex
                rw [hlen] at hrv
                subst hrv
                have HMM := Lib.hid hM
                have HRR := Lib.hid hR
                have HOO := Lib.hid hO
                have m0 := hM.c
                have m0f := hM.f
                have zm := cell_lt m0
                have HLEN := Lib.hid hlen
                clear hM hO hR hlen hrel hall
                go_upto_region 11 with (fail)
                have hBw := Below.refl wr.heap.size wr
                go_region_law (first
                  | (refine stepL elRow (prs_prow _) (by decide) (by rfl) (by rfl) (HO5.out.below (prs_prow _) (bal (Below.refl _ _) _)) ((prs_prow _).kp HR5.out (Kp.of_below _ (bal (Below.refl _ _) _))) (by rfl) (by rfl) (cell_new rfl rfl) (by rw [HLEN.out]; omega) (by rw [HLEN.out]; unfold maxLen; omega) ?_; intro v' w8 hO8 hk8; have HO8 := Lib.hid hO8; have HM8 := Lib.hid ((HM5.out.keep (bal (Below.refl _ _) _)).kp hk8 (by decide)); have HR8 := Lib.hid ((HRR5.out.keep (bal (Below.refl _ _) _)).kp hk8 (by decide)); have d4 := HM8.out.c; have df4 := HM8.out.f; have zd4 := cell_lt d4; obtain ⟨a8, c8, hv8⟩ := hO8.ex; rw [List.length_append, HLEN.out] at hv8; subst hv8; clear hO8 hk8)
                  | (go_simp; go_wp2_with (go_at_call 129; refine (kcl _ ?_).mono ?_; (repeat (first|exact bzR _ _|exact hBw|refine bzD ?_|refine bzN ?_|refine bzS ?_|refine bzA ?_)); rintro e w5 ⟨⟨v5, rfl, hr5⟩, hb5⟩; have hB5 : Below wr.heap.size wr w5 := bthen (by repeat (first|exact bzR _ _|exact hBw|refine bzD ?_|refine bzN ?_|refine bzS ?_|refine bzA ?_)) hb5; have hs5 := hB5.size; have HR5 := Lib.hid (show PRow w.heap.size w5 v5 row from hr5.row.rebase (show w.heap.size ≤ _ from hBr.size)); have HM5 := Lib.hid (HMM.out.keep hB5); have HRR5 := Lib.hid (HRR.out.keep hB5); have HO5 := Lib.hid (HOO.out.below (prs_prow _) hB5); have b4 := HM5.out.c; have b4f := HM5.out.f; have zb4 := cell_lt b4; obtain ⟨a5, c5, rfl⟩ := hr5.ex)))
                all_goals
                  have HEND := Lib.hid (show VarMx w.heap.size (w8.setCell ⟨w.heap.size + 1, 0, none⟩ (.slice a8 (k + 1) c8)) (.slice none 0 0) ∧ ∃ rv, VarMx (w.heap.size + 1) (w8.setCell ⟨w.heap.size + 1, 0, none⟩ (.slice a8 (k + 1) c8)) rv ∧ OwnL 68 (PRow w.heap.size) w (w8.setCell ⟨w.heap.size + 1, 0, none⟩ (.slice a8 (k + 1) c8)) rv (g.take (k + 1)) from
                    ⟨HR8.out.far (by show w.heap.size + 1 ≠ w.heap.size; omega) _, _, HM8.out.set _, by rw [HTK.out]; exact HO8.out.set (prs_prow _) HM8.out.ty (by decide) (by decide) (by show w.heap.size ≤ w.heap.size + 1; omega) _⟩)
                  have hB8 := bset HO8.out.bel (p := ⟨w.heap.size + 1, 0, none⟩) (by show w.heap.size ≤ w.heap.size + 1; omega) (.slice a8 (k + 1) c8)
                  go_wp2
                  exact ⟨⟨k + 1, by omega, by go_num, hB8, HEND, HAL⟩, by simp [intOf]; omega⟩
              · have hq1 : ((lk : Int) != (m : Int)) = true := by simp; omega
                have HEE : Hid (fitsE g = 5) := Lib.hid (by rw [HE.out, if_neg (fun h => e1 (by rw [← h k hlt]; exact HLK.out.symm))])
                clear hM hO hR hrel
                go_wp2
                refine bodyPost_ret (v := .tuple #[.agg #[.slice none 0 0], .int .i64 5]) (by simp [results, Tryz.results43, go_sem, *]) rfl (newM_no HEE.out (by decide) ?_)
                repeat (first|exact bzR _ _|exact hBr|refine bzD ?_|refine bzN ?_|refine bzS ?_|refine bzA ?_)
            · obtain rfl : k = g.length := by omega
              rw [List.take_length] at hO
              have HEE : Hid (fitsE g = 0) := Lib.hid (by rw [HE.out, if_pos hall.out])
              have HL := Lib.hid hO.isL
              have m0 := hM.c
              have zm := cell_lt m0
              have HTR := Lib.hid hR.ty
              obtain ⟨oa, oc, rfl⟩ := hO.ex
              have HIM := Lib.hid (show IsM w.heap.size wr (.agg #[.slice oa g.length oc]) g from ⟨oa, oc, rfl, HL.out⟩)
              clear hM hO hR hrel HE
              go_wp2
              refine bodyPost_ret (v := .tuple #[.agg #[.slice oa g.length oc], .int .i64 0]) (by simp [results, Tryz.results43, go_sem, *]) rfl (newM_yes HEE.out (HIM.out.setM HTR.out _) ?_)
              repeat (first|exact bzR _ _|exact hBr|refine bzD ?_|refine bzN ?_|refine bzS ?_|refine bzA ?_)
end Go.Proofs.YtbmaffijncapiaaGreatDoor

/- matrix: rows that are written, each in a block of its own; the bits of elimination. -/
namespace Go.Proofs.YtbmaffijncapiaaGreatDoor
open Num
open Go.ChangeShapes Go.WideShapes Go.ChangeAt Go.RowKit
set_option linter.unusedVariables false
set_option linter.unusedSimpArgs false
structure RowsW (base top B n m : Nat) (w : World) (bs : Nat → Nat) (g : Nat → Nat → Int) : Prop where
  tB : typOf w B = some 68
  lo : base ≤ B
  hi : B < top
  fB : Free w B
  cell : ∀ i, i < n → ∃ c, w.cell? ⟨B, i, none⟩ = some (.slice (some ⟨bs i, 0, none⟩) m c)
  ty : ∀ i, i < n → typOf w (bs i) = some 50
  lob : ∀ i, i < n → base ≤ bs i
  hib : ∀ i, i < n → bs i < top
  fr : ∀ i, i < n → Free w (bs i)
  inj : ∀ i j, i < n → j < n → bs i = bs j → i = j
  num : ∀ i, i < n → IntsF IsInt w (bs i) 0 m (g i)
section
variable {base top B n m : Nat} {w w' : World} {bs : Nat → Nat} {g g' : Nat → Nat → Int}
theorem RowsW.congr (h : RowsW base top B n m w bs g) (e : ∀ r c, r < n → c < m → g r c = g' r c) : RowsW base top B n m w bs g' :=
  ⟨h.tB, h.lo, h.hi, h.fB, h.cell, h.ty, h.lob, h.hib, h.fr, h.inj, fun i hi => (h.num i hi).congr fun k hk => e i k hi hk⟩
theorem RowsW.out {X : Nat → Prop} (h : RowsW base top B n m w bs g) (ho : Out X w w') (hx : ∀ q, base ≤ q → q < top → ¬ X q) (hl : Lim w w') : RowsW base top B n m w' bs g := by
  have bB := hx B h.lo h.hi
  have bi : ∀ i, i < n → ¬ X (bs i) := fun i hi => hx _ (h.lob i hi) (h.hib i hi)
  refine ⟨by rw [typ_of_block (w := w) (ho.block B (typ_lt h.tB) bB)]; exact h.tB, h.lo, h.hi, h.fB.out ho bB, fun i hi => ?_, fun i hi => by rw [typ_of_block (w := w) (ho.block _ (typ_lt (h.ty i hi)) (bi i hi))]; exact h.ty i hi, h.lob, h.hib, fun i hi => (h.fr i hi).out ho (bi i hi), h.inj, fun i hi => (h.num i hi).out lims_int ho (bi i hi) hl⟩
  obtain ⟨c, hc⟩ := h.cell i hi
  exact ⟨c, okeep ho hc bB⟩
theorem RowsW.keep (h : RowsW base top B n m w bs g) (k : Below w.heap.size w w') : RowsW base top B n m w' bs g :=
  h.out (X := fun _ => False) (Out.of_below _ k) (fun _ _ _ hf => hf) (Lim.of_below k)
end
def PInt (w : World) (u : Value) (x : Nat) : Prop := u = .int .i64 (x : Nat)
theorem prs_pint : Prs (fun _ => False) PInt := ⟨fun h => by cases h; rfl, fun h _ => h⟩
end Go.Proofs.YtbmaffijncapiaaGreatDoor

/- matrix: eliminated. -/
namespace Go.Proofs.YtbmaffijncapiaaGreatDoor
open Num
open Go.ChangeShapes Go.WideShapes Go.ChangeAt Go.RowKit
set_option linter.unusedVariables false
set_option linter.unusedSimpArgs false
attribute [local go_sem ↓] Go.wp_at_zero Go.wp_at_succ
structure ElS (w : World) (lb base top B n m : Nat) (wr : World) (pv : Value) (s : Det.El) : Prop where
  bel : Below w.heap.size w wr
  r : wr.cell? ⟨w.heap.size, 0, none⟩ = some (.bool false) ∧ wr.cell? ⟨w.heap.size, 1, none⟩ = some (.slice none 0 0) ∧ wr.frozen? ⟨w.heap.size, 0, none⟩ = false ∧ wr.frozen? ⟨w.heap.size, 1, none⟩ = false
  rt : typOf wr w.heap.size = some 50
  rows : 0 < n → ∃ bs, RowsW base top B n m wr bs s.g
  last : VarI lb s.last wr
  piv : OwnL 3 PInt w wr pv s.p
theorem ElS.keep {w : World} {lb base top B n m : Nat} {wr w' : World} {pv : Value} {s : Det.El} (h : ElS w lb base top B n m wr pv s) (k : Below wr.heap.size wr w') : ElS w lb base top B n m w' pv s := by
  exact ⟨bthen h.bel k, ⟨bkeep k h.r.1, bkeep k h.r.2.1, bkeepf k h.r.1 h.r.2.2.1, bkeepf k h.r.2.1 h.r.2.2.2⟩, typ_keep h.rt k, fun h0 => by obtain ⟨bs, hb⟩ := h.rows h0; exact ⟨bs, hb.keep k⟩, h.last.keep k, h.piv.below prs_pint k⟩
section
variable {w : World} {lb base top B n m : Nat} {wr w' w7 : World} {pv : Value} {s : Det.El}
theorem ElS.congr (h : ElS w lb base top B n m wr pv s) {s' : Det.El} (hg : ∀ r c, r < n → c < m → s.g r c = s'.g r c) (hp : s.p = s'.p) (hl : s.last = s'.last) : ElS w lb base top B n m wr pv s' :=
  ⟨h.bel, h.r, h.rt, fun h0 => by obtain ⟨bs, hb⟩ := h.rows h0; exact ⟨bs, hb.congr hg⟩, hl ▸ h.last, hp ▸ h.piv⟩
end
def gI (g1 : Nat → Nat → Int) (k j : Nat) (last : Int) (i : Nat) : Nat → Nat → Int := fun r c => if k < r ∧ r < i then Det.elNew g1 k j last r c else g1 r c
theorem getD_app_lt {α : Type} {L M : List α} {d : α} {i : Nat} (h : i < L.length) : (L ++ M).getD i d = L.getD i d := by
  simp [List.getD_eq_getElem?_getD, List.getElem?_append, h]
theorem getD_app_eq {α : Type} {L : List α} {x d : α} : (L ++ [x]).getD L.length d = x := by simp [List.getD_eq_getElem?_getD]
theorem meas {N c : Nat} (h : c < N) {a b : Value} (ha : a = .int .i64 ((c + 1 : Nat) : Int)) (hb : b = .int .i64 (c : Nat)) : N - (intOf a).toNat < N - (intOf b).toNat := by
  subst ha hb
  simp [intOf]
  omega
end Go.Proofs.YtbmaffijncapiaaGreatDoor

/- matrix: det, Det. -/
namespace Go.Proofs.YtbmaffijncapiaaGreatDoor
open Num
open Go.ChangeShapes Go.WideShapes Go.ChangeAt Go.RowKit
set_option linter.unusedVariables false
set_option linter.unusedSimpArgs false
attribute [local go_sem ↓] Go.wp_at_zero Go.wp_at_succ
end Go.Proofs.YtbmaffijncapiaaGreatDoor

/- slices.Grow, slices.Concat at rows of numbers. -/
namespace Go.Proofs.YtbmaffijncapiaaGreatDoor
open Num
open Go.ChangeShapes Go.WideShapes Go.ChangeAt Go.RowKit
set_option linter.unusedVariables false
set_option linter.unusedSimpArgs false
attribute [local go_sem ↓] Go.wp_at_zero Go.wp_at_succ
end Go.Proofs.YtbmaffijncapiaaGreatDoor

