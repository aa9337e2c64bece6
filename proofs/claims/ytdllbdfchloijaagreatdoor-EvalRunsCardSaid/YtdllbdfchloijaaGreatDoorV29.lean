/- Texts of this seat, laid together: RaC, RaD, MiC, MiF, ScE. Each opens with its own remark, which says what it proves, and under which conditions. -/
import Derived.Test.YtdllbdfchloijaaGreatDoorV28
import Derived.Test.YtdllbdfchloijaaGreatDoorV05
import Derived.Deep.DeepCutAuto
import Derived.Test.YtdllbdfchloijaaGreatDoorV18
set_option linter.unusedVariables false
set_option linter.unusedSimpArgs false
/- ratio: Den. -/
namespace Go.Proofs.YtdllbdfchloijaaGreatDoor
open Num
open Go.ChangeShapes Go.WideShapes Go.ChangeAt Go.RowKit
set_option linter.unusedVariables false
set_option linter.unusedSimpArgs false
attribute [local go_sem ↓] Go.wp_at_zero Go.wp_at_succ
end Go.Proofs.YtdllbdfchloijaaGreatDoor

/- ratio: rows of fractions of the call's own, built by append. -/
namespace Go.Proofs.YtdllbdfchloijaaGreatDoor
open Num
open Go.ChangeShapes Go.WideShapes Go.ChangeAt Go.RowKit
set_option linter.unusedVariables false
set_option linter.unusedSimpArgs false
theorem IsRat.lim {w w' : World} {v : Value} {n d : Int} (h : IsRat w v n d) (k : Lim w w') : IsRat w' v n d := by
  obtain ⟨n1, a1, l1, c1, n2, a2, l2, c2, e, h1, h2⟩ := h
  exact ⟨n1, a1, l1, c1, n2, a2, l2, c2, e, h1.lim k, h2.lim k⟩
/-- the four cells of a fraction -/
def RatAt (w : World) (g : Nat → Option Value) (q : Int × Int) : Prop :=
  ∃ n1 a1 l1 c1 n2 a2 l2 c2, g 0 = some (.bool n1) ∧ g 1 = some (.slice a1 l1 c1) ∧ g 2 = some (.bool n2) ∧ g 3 = some (.slice a2 l2 c2) ∧ IsInt w (.agg #[.bool n1, .slice a1 l1 c1]) q.1 ∧ IsInt w (.agg #[.bool n2, .slice a2 l2 c2]) (q.2 - 1)
theorem RatAt.lim {w w' : World} {g : Nat → Option Value} {q : Int × Int} (h : RatAt w g q) (k : Lim w w') : RatAt w' g q := by
  obtain ⟨n1, a1, l1, c1, n2, a2, l2, c2, e0, e1, e2, e3, h1, h2⟩ := h
  exact ⟨n1, a1, l1, c1, n2, a2, l2, c2, e0, e1, e2, e3, h1.lim k, h2.lim k⟩
theorem RatAt.congr {w : World} {g g' : Nat → Option Value} {q : Int × Int} (h : RatAt w g q) (e : ∀ i v, i < 4 → g i = some v → g' i = some v) : RatAt w g' q := by
  obtain ⟨n1, a1, l1, c1, n2, a2, l2, c2, e0, e1, e2, e3, h1, h2⟩ := h
  exact ⟨n1, a1, l1, c1, n2, a2, l2, c2, e 0 _ (by omega) e0, e 1 _ (by omega) e1, e 2 _ (by omega) e2, e 3 _ (by omega) e3, h1, h2⟩
/-- a row of fractions in memory -/
def IsQ (w : World) (v : Value) (L : List (Int × Int)) : Prop :=
  ∃ a c, v = .slice a L.length c ∧ (L = [] ∨ ∃ b off, a = some ⟨b, off, none⟩ ∧ ∀ k (hk : k < L.length), RatAt w (fun i => w.cell? ⟨b, off + (k * 4 + i), none⟩) L[k])
theorem lim_below {w w' : World} (k : Below w.heap.size w w') : Lim w w' := (Kp.of_below (fun _ => True) k).lim trivial
theorem IsQ.keep {w w' : World} {v : Value} {L : List (Int × Int)} (h : IsQ w v L) (k : Below w.heap.size w w') : IsQ w' v L := by
  obtain ⟨a, c, e, h2⟩ := h
  refine ⟨a, c, e, h2.imp id ?_⟩
  rintro ⟨b, off, e2, h3⟩
  exact ⟨b, off, e2, fun j hj => ((h3 j hj).lim (lim_below k)).congr fun i v _ hv => bkeep k hv⟩
end Go.Proofs.YtdllbdfchloijaaGreatDoor

/- matrix: Inverse of a matrix that has one; Solve. -/
namespace Go.Proofs.YtdllbdfchloijaaGreatDoor
open Num
open Go.ChangeShapes Go.WideShapes Go.ChangeAt Go.RowKit
set_option linter.unusedVariables false
set_option linter.unusedSimpArgs false
attribute [local go_sem ↓] Go.wp_at_zero Go.wp_at_succ
end Go.Proofs.YtdllbdfchloijaaGreatDoor

/- matrix: Adjugate of a square matrix. -/
namespace Go.Proofs.YtdllbdfchloijaaGreatDoor
open Num
open Go.ChangeShapes Go.WideShapes Go.ChangeAt Go.RowKit
set_option linter.unusedVariables false
set_option linter.unusedSimpArgs false
end Go.Proofs.YtdllbdfchloijaaGreatDoor

/- scheme: the matrix of powers; Left, Right, Full, Inverse. -/
namespace Go.Proofs.YtdllbdfchloijaaGreatDoor
open Pt
open Num
open Go.ChangeShapes Go.WideShapes Go.ChangeAt Go.RowKit
set_option linter.unusedVariables false
set_option linter.unusedSimpArgs false
attribute [local go_sem ↓] Go.wp_at_zero Go.wp_at_succ
theorem Mt.ofNewK {K : Nat} {g : Grid} {v : Value} {w : World} {n : Nat} (h : IsL 43 (PRow 0) 0 w v g) (hs : 0 < g.length ∧ 0 < cols g ∧ g.length ≤ 16 ∧ cols g ≤ 16) (hr : Rct g (cols g)) (hb : BdM K g) (hn : g.length = n) :
    Calls Tryz.prog 109 #[v] w fun e w' => (∃ a c, e = .returned (.tuple #[.agg #[.slice a n c], .int .i64 0]) ∧ Mt K g (.agg #[.slice a n c]) w') ∧ Below w.heap.size w w' := by
  refine (newM_c v g w h (fun i hi => by rw [hr i hi]; omega)).mono ?_
  rintro e w' ⟨ho, hB⟩
  refine ⟨?_, hB⟩
  rcases ho with ⟨-, u, rfl, hu⟩ | ⟨h2, -⟩
  · have hu2 := hu.rebase (Nat.zero_le _)
    obtain ⟨a, c, rfl⟩ := hu2.lit
    rw [hn] at hu2 ⊢
    exact ⟨a, c, rfl, hu2, hr, hs, hb⟩
  · exact absurd (fits_of hs hr) h2
/-- a point's powers, a row each -/
def pwG (n k : Nat) (f : Nat → Int × Int) : Grid := tab n k fun i j => powF (f i).1 (f i).2 k j
theorem pwG_len (n k : Nat) (f : Nat → Int × Int) : (pwG n k f).length = n := tab_len _ _ _
theorem pwG_cols {n k : Nat} (f : Nat → Int × Int) (h : 0 < n) : cols (pwG n k f) = k := tab_cols _ h
theorem powF_bd2 (a b : Int) (n i : Nat) (hp : PIn a b) (hn : n ≤ 16) (hi : i < n) : Bd 200 (powF a b n i) := by
  have h1 := (bd_pt hp.1 hp.2.1).pow i
  have h2 := (bd_pt hp.2.2.1 hp.2.2.2).pow (n - 1 - i)
  exact (h1.mul h2).mono (by omega)
theorem pwG_bd {n k : Nat} {f : Nat → Int × Int} (hin : AllIn n f) (hk : k ≤ 16) : BdM 200 (pwG n k f) :=
  tab_bd fun i j hi hj => powF_bd2 _ _ _ _ ((inB_iff _ _).1 (hin i hi)) hk hj
theorem pwG_row {n k i : Nat} {f : Nat → Int × Int} (hi : i < n) : ((pwG n k f).getD i []).length = k := tab_rowlen hi
theorem pwG_at {n k i j : Nat} {f : Nat → Int × Int} (hi : i < n) (hj : j < k) : ((pwG n k f).getD i []).getD j 0 = powF (f i).1 (f i).2 k j := tab_gat hi hj
theorem prow_of {w : World} {g k : Nat} {F : Nat → Int} {l : List Int} (h : IntsF IsInt w g 0 k F) (ht : typOf w g = some 50) (hk : k ≤ maxLen) (hl : l.length = k) (he : ∀ j, j < k → F j = l.getD j 0) : PRow 0 w (.slice (some ⟨g, 0, none⟩) k k) l := by
  subst hl
  exact ⟨_, _, rfl, Nat.le_refl _, hk, .inr ⟨g, 0, rfl, Nat.zero_le _, ht, h.congr he⟩⟩
set_option maxRecDepth 100000 in
set_option maxHeartbeats 4000000 in
theorem powers_c (b : Nat) (k1 k2 : Int) (n k : Nat) (f : Nat → Int × Int) (w : World) (h : SchAt w b k1 k2 n f) (hin : AllIn n f) (h1 : 1 ≤ k) (h2 : k ≤ 16) (h3 : 1 ≤ n) (h4 : n ≤ 16) :
    Calls Tryz.prog 69 #[.pointer (some ⟨b, 0, none⟩), .int .i64 k] w fun e w' => (∃ a c, e = .returned (.agg #[.slice a n c]) ∧ Mt 200 (pwG n k f) (.agg #[.slice a n c]) w') ∧ Below w.heap.size w w' := by
  have HIN := Lib.hid hin
  obtain ⟨-, -, pa, pc, c2, hp⟩ := h
  obtain ⟨pb, po, rfl, hpc, hpp⟩ : ∃ b off, pa = some ⟨b, off, none⟩ ∧ n ≤ pc ∧ PtsIn w b off n f := hp.elim (fun h => absurd h (by omega)) id
  have HP := Lib.hid hpp
  have zc2 := cell_lt c2
  clear hp hpp hin
  have hB := Below.refl w.heap.size w
  obtain ⟨G, hG⟩ : ∃ G, pwG n k f = G := ⟨_, rfl⟩
  have HG := Lib.hid hG
  have hgl : G.length = n := by rw [← hG]; exact pwG_len _ _ _
  rw [hG]
  have HGL := Lib.hid hgl
  clear hG hgl
  go_enter Tryz.func69, Tryz.ntmps69
  go_wp2
  go_loopw [5, 17] (fun v x wr => ∃ i : Nat, i ≤ n ∧ x = .int .i64 i ∧ Hid (OwnL 43 (PRow 0) w wr v (G.take i)) ∧ Hid (wr.cell? ⟨w.heap.size, 0, none⟩ = some (.slice none 0 0) ∧ wr.frozen? ⟨w.heap.size, 0, none⟩ = false ∧ typOf wr w.heap.size = some 73)) (fun _ x _ => n - (intOf x).toNat)
  case atStart => exact ⟨0, Nat.zero_le _, rfl, Lib.hid (OwnL.nil _ _ (by repeat (first | exact Below.refl _ _ | exact hB | refine Below.drew ?_ | refine below_drewN ?_ _ | refine bset ?_ (by simp <;> omega) _ | refine bal ?_ _))), Lib.hid ⟨by simp [go_sem], by simp [go_sem], by first | exact typ_fresh rfl | (rw [typ_drew]; exact typ_fresh rfl)⟩⟩
  case round =>
    obtain ⟨i, hi, rfl, hO, hR⟩ := hrel
    have hBr := hO.out.bel
    have hlen : (G.take i).length = i := by rw [List.length_take, HGL.out]; omega
    have HLEN := Lib.hid hlen
    obtain ⟨va, vc, hvv⟩ := hO.out.ex
    rw [hlen] at hvv
    subst hvv
    clear hlen
    by_cases hlt : i < n
    · have hltI : (i : Int) < (n : Int) := by omega
      obtain ⟨d0, d1⟩ := HP.out i hlt
      replace d0 := bkeep hBr d0
      replace d1 := bkeep hBr d1
      have zd := cell_lt d0
      have hpin := (inB_iff _ _).1 (HIN.out i hlt)
      have HT := Lib.hid (take_getD [] (show i < G.length by rw [HGL.out]; exact hlt))
      have HRW := Lib.hid (show (G.getD i []).length = k ∧ ∀ j, j < k → powF (f i).1 (f i).2 k j = (G.getD i []).getD j 0 from by
        rw [← HG.out]; exact ⟨pwG_row hlt, fun j hj => (pwG_at hlt hj).symm⟩)
      obtain ⟨row, hrow⟩ : ∃ r, G.getD i [] = r := ⟨_, rfl⟩
      rw [hrow] at HT HRW
      obtain ⟨q, hq⟩ : ∃ q, f i = q := ⟨_, rfl⟩
      rw [hq] at d0 d1 hpin HRW
      obtain ⟨q1, q2⟩ := q
      have PC := Lib.hid (fun W => ptPow_own q1 q2 k W hpin h2)
      have hLL : ((G.take i).length + 1) * 24 ≤ 140737488355328 := by rw [HLEN.out]; omega
      have hLM : (G.take i).length + 1 ≤ maxLen := by rw [HLEN.out]; unfold maxLen; omega
      have hBw := Below.refl wr.heap.size wr
      clear hq hpin hrow
      go_wp2_with fail
      (with_reducible refine (PC.out _).mono ?_)
      rintro e w5 ⟨⟨rg, rfl, hI, -, hty⟩, hb5⟩
      have hb5' : Below wr.heap.size wr w5 := bthen (by repeat (first | exact Below.refl _ _ | exact hBw | refine Below.drew ?_ | refine below_drewN ?_ _ | refine bset ?_ (by simp <;> omega) _ | refine bal ?_ _)) hb5
      have HR5 := Lib.hid (prow_of hI hty (by unfold maxLen; omega) HRW.out.1 HRW.out.2)
      have HO5 := Lib.hid (hO.out.below (prs_prow 0) hb5')
      have HR6 := Lib.hid (And.intro (bkeep hb5' hR.out.1) (And.intro (bkeepf hb5' hR.out.1 hR.out.2.1) (typ_keep hR.out.2.2 hb5')))
      clear PC hI hty hb5 hO
      go_wp2_with (at_builtin; refine appL elRow (prs_prow 0) (by decide) (by rfl) (by rfl) (HO5.out.below (prs_prow 0) (bal (Below.refl _ _) _)) (prow_keep HR5.out (bal (Below.refl _ _) _)) (by rfl) (by rfl) (cell_new (by simp) rfl) hLL hLM ?_)
      intro v' w8 hO8 hk8
      have HO8 := Lib.hid hO8
      rw [← HT.out] at HO8
      have HR8 := Lib.hid (And.intro (hk8.cell (typ_keep HR6.out.2.2 (bal (Below.refl _ _) _)) (by decide) (bkeep (bal (Below.refl _ _) _) HR6.out.1)) (And.intro (hk8.frz (typ_keep HR6.out.2.2 (bal (Below.refl _ _) _)) (by decide) (bkeepf (bal (Below.refl _ _) _) HR6.out.1 HR6.out.2.1)) (hk8.typ (typ_keep HR6.out.2.2 (bal (Below.refl _ _) _)) (by decide))))
      clear hO8 hk8
      go_wp2
      exact ⟨⟨i + 1, hlt, by go_num, HO8, HR8⟩, meas hlt (by go_num) rfl⟩
    · obtain rfl : n = i := by omega
      have hltI : ¬ (n : Int) < (n : Int) := by omega
      rw [List.take_of_length_le (by rw [HGL.out]; exact Nat.le_refl _)] at hO
      have HIS := Lib.hid (hO.out.isL.rebase (Nat.zero_le _))
      have HMT := Lib.hid (show (0 < G.length ∧ 0 < cols G ∧ G.length ≤ 16 ∧ cols G ≤ 16) ∧ Rct G (cols G) ∧ BdM 200 G from by
        rw [← HG.out]
        exact ⟨⟨by rw [pwG_len]; omega, by rw [pwG_cols f h3]; omega, by rw [pwG_len]; omega, by rw [pwG_cols f h3]; omega⟩, by rw [pwG_cols f h3]; exact tab_rect _ _ _, pwG_bd HIN.out h2⟩)
      have NC := Lib.hid (fun W (q : Below wr.heap.size wr W) => Mt.ofNewK (HIS.out.keep (prs_prow 0) q) HMT.out.1 HMT.out.2.1 HMT.out.2.2 HGL.out)
      have hBw := Below.refl wr.heap.size wr
      clear hO
      go_wp2_with fail
      (with_reducible refine (NC.out _ ?_).mono ?_); (repeat (first | exact Below.refl _ _ | exact hBw | refine Below.drew ?_ | refine below_drewN ?_ _ | refine bset ?_ (by simp <;> omega) _ | refine bal ?_ _))
      rintro e w9 ⟨⟨ma, mc, rfl, hm⟩, hb9⟩
      have hk9 : Below wr.heap.size wr w9 := bthen (by repeat (first | exact Below.refl _ _ | exact hBw | refine Below.drew ?_ | refine below_drewN ?_ _ | refine bset ?_ (by simp <;> omega) _ | refine bal ?_ _)) hb9
      have hB9 := bthen hBr hk9
      have HM := Lib.hid hm
      obtain ⟨r0, r0f, hty⟩ := hR.out
      replace r0f := bkeepf hk9 r0 r0f
      replace r0 := bkeep hk9 r0
      have HT := Lib.hid (typ_keep hty hk9)
      have zr := cell_lt r0
      have z9 : w.heap.size < w9.heap.size := zr
      clear hm NC hb9 hty
      go_wp2
      refine bodyPost_ret (v := .agg #[.slice ma n mc]) (by simp [results, Tryz.results69, go_sem, *]) rfl ⟨⟨ma, mc, rfl, ?_⟩, ?_⟩
      · first | exact (HM.out.al _).setM (p := ⟨w.heap.size, 0, none⟩) (typ_keep HT.out (bal (Below.refl _ _) _)) _ | exact (HM.out.setM (p := ⟨w.heap.size, 0, none⟩) HT.out _).al _ | exact (HM.out.setM (p := ⟨w.heap.size, 0, none⟩) HT.out _)
      ·
        repeat (first | exact Below.refl _ _ | exact hB9 | refine Below.drew ?_ | refine below_drewN ?_ _ | refine bset ?_ (by simp <;> omega) _ | refine bal ?_ _)
set_option maxRecDepth 100000 in
set_option maxHeartbeats 2000000 in
theorem leftS_c (b : Nat) (k1 k2 : Int) (n k : Nat) (f : Nat → Int × Int) (w : World) (h : SchAt w b k1 k2 n f) (hin : AllIn n f) (hk : k1 = (k : Int)) (h1 : 1 ≤ k) (h2 : k ≤ 16) (h3 : 1 ≤ n) (h4 : n ≤ 16) :
    Calls Tryz.prog 30 #[.pointer (some ⟨b, 0, none⟩)] w fun e w' => (∃ a c, e = .returned (.agg #[.slice a n c]) ∧ Mt 200 (pwG n k f) (.agg #[.slice a n c]) w') ∧ Below w.heap.size w w' := by
  have PC := Lib.hid (fun W (q : Below w.heap.size w W) => powers_c b k1 k2 n k f W (h.keep q) hin h1 h2 h3 h4)
  have c2 := h.c0
  have zc := cell_lt c2
  rw [hk] at c2
  have hB := Below.refl w.heap.size w
  clear h hk
  go_enter Tryz.func30, Tryz.ntmps30
  go_wp2_with fail
  (with_reducible refine (PC.out _ ?_).mono ?_); (repeat (first | exact Below.refl _ _ | exact hB | refine Below.drew ?_ | refine below_drewN ?_ _ | refine bset ?_ (by simp <;> omega) _ | refine bal ?_ _))
  rintro e w1 ⟨⟨ma, mc, rfl, hm⟩, hb1⟩
  have hB1 : Below w.heap.size w w1 := bthen (by repeat (first | exact Below.refl _ _ | exact hB | refine Below.drew ?_ | refine below_drewN ?_ _ | refine bset ?_ (by simp <;> omega) _ | refine bal ?_ _)) hb1
  have HT := Lib.hid (show typOf w1 w.heap.size = some 73 from typ_keep (typ_fresh rfl) hb1)
  have r0 : w1.cell? ⟨w.heap.size, 0, none⟩ = some (.slice none 0 0) := bkeep hb1 (cell_new rfl rfl)
  have r0f : w1.frozen? ⟨w.heap.size, 0, none⟩ = false := bkeepf hb1 (cell_new rfl rfl) (by simp [go_sem])
  have HM := Lib.hid hm
  have zr := cell_lt r0
  clear PC hb1 hm hB
  go_wp2
  refine bodyPost_ret (v := .agg #[.slice ma n mc]) (by simp [results, Tryz.results30, go_sem, *]) rfl ⟨⟨ma, mc, rfl, HM.out.setM (p := ⟨w.heap.size, 0, none⟩) HT.out _⟩, bset hB1 (Nat.le_refl _) _⟩
set_option maxRecDepth 100000 in
set_option maxHeartbeats 2000000 in
theorem rightS_c (b : Nat) (k1 k2 : Int) (n k : Nat) (f : Nat → Int × Int) (w : World) (h : SchAt w b k1 k2 n f) (hin : AllIn n f) (hk : k2 = (k : Int)) (h1 : 1 ≤ k) (h2 : k ≤ 16) (h3 : 1 ≤ n) (h4 : n ≤ 16) :
    Calls Tryz.prog 31 #[.pointer (some ⟨b, 0, none⟩)] w fun e w' => (∃ a c, e = .returned (.agg #[.slice a n c]) ∧ Mt 200 (pwG n k f) (.agg #[.slice a n c]) w') ∧ Below w.heap.size w w' := by
  have PC := Lib.hid (fun W (q : Below w.heap.size w W) => powers_c b k1 k2 n k f W (h.keep q) hin h1 h2 h3 h4)
  have c2 := h.c1
  have zc := cell_lt c2
  rw [hk] at c2
  have hB := Below.refl w.heap.size w
  clear h hk
  go_enter Tryz.func31, Tryz.ntmps31
  go_wp2_with fail
  (with_reducible refine (PC.out _ ?_).mono ?_); (repeat (first | exact Below.refl _ _ | exact hB | refine Below.drew ?_ | refine below_drewN ?_ _ | refine bset ?_ (by simp <;> omega) _ | refine bal ?_ _))
  rintro e w1 ⟨⟨ma, mc, rfl, hm⟩, hb1⟩
  have hB1 : Below w.heap.size w w1 := bthen (by repeat (first | exact Below.refl _ _ | exact hB | refine Below.drew ?_ | refine below_drewN ?_ _ | refine bset ?_ (by simp <;> omega) _ | refine bal ?_ _)) hb1
  have HT := Lib.hid (show typOf w1 w.heap.size = some 73 from typ_keep (typ_fresh rfl) hb1)
  have r0 : w1.cell? ⟨w.heap.size, 0, none⟩ = some (.slice none 0 0) := bkeep hb1 (cell_new rfl rfl)
  have r0f : w1.frozen? ⟨w.heap.size, 0, none⟩ = false := bkeepf hb1 (cell_new rfl rfl) (by simp [go_sem])
  have HM := Lib.hid hm
  have zr := cell_lt r0
  clear PC hb1 hm hB
  go_wp2
  refine bodyPost_ret (v := .agg #[.slice ma n mc]) (by simp [results, Tryz.results31, go_sem, *]) rfl ⟨⟨ma, mc, rfl, HM.out.setM (p := ⟨w.heap.size, 0, none⟩) HT.out _⟩, bset hB1 (Nat.le_refl _) _⟩
end Go.Proofs.YtdllbdfchloijaaGreatDoor

