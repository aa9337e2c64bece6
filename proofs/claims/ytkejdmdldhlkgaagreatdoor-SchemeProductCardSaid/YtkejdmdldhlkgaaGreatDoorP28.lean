/- Texts of this seat, laid together: MiC, MiF, ScE, ScF, ScG. Each opens with its own remark, which says what it proves, and under which conditions. -/
import Derived.Test.YtkejdmdldhlkgaaGreatDoorP27
import Derived.Deep.DeepCutAuto
import Derived.Test.YtkejdmdldhlkgaaGreatDoorP06
import Derived.Test.YtkejdmdldhlkgaaGreatDoorP08
set_option linter.unusedVariables false
set_option linter.unusedSimpArgs false
/- matrix: Inverse of a matrix that has one; Solve. -/
namespace Go.Proofs.YtkejdmdldhlkgaaGreatDoor
open Num
open Go.ChangeShapes Go.WideShapes Go.ChangeAt Go.RowKit
set_option linter.unusedVariables false
set_option linter.unusedSimpArgs false
attribute [local go_sem ↓] Go.wp_at_zero Go.wp_at_succ
theorem inv_bd {K : Nat} {g : Grid} (hK1 : 1 ≤ K) (h : BdM K g) (hd : Det.detE g.length (gat g) ≠ 0) : BdM (kb K g.length) (invG g) := tab_bd fun i j hi hj => bd_quot (adj_bd hK1 h i j) (invS_adj hi hj) (invS_nz hd)
theorem invD_bd {K : Nat} {g : Grid} (hK1 : 1 ≤ K) (h : BdM K g) (hd : Det.detE g.length (gat g) ≠ 0) : Bd (kb K g.length) (invD g) := bd_quot (detE_bd hK1 h rfl) invS_det (invS_nz hd)
theorem inv_mt {K n : Nat} {g : Grid} {v : Value} {w w' : World} (h : Mt K g v w) (hK1 : 1 ≤ K) (hd : Det.detE g.length (gat g) ≠ 0) {u : Value} (hu : IsM 0 w' u (invG g)) : Mt (kb K 16) (invG g) u w' := by
  have s := h.sz
  exact ⟨hu, by rw [inv_cols s.1]; exact tab_rect _ _ _, ⟨by rw [inv_len]; omega, by rw [inv_cols s.1]; omega, by rw [inv_len]; omega, by rw [inv_cols s.1]; omega⟩, (inv_bd hK1 h.bd hd).mono (kb_mono K s.2.2.1)⟩
theorem Mt.inv {K n : Nat} {g : Grid} {v : Value} {w : World} (h : Mt K g v w) (hs : g.length = cols g) (hK1 : 1 ≤ K) (hK : kb K 16 ≤ 4294967296) (hd : Det.detE g.length (gat g) ≠ 0) (hn : g.length = n) :
    Calls Tryz.prog 65 #[v] w fun e w' => (∃ a c nb ua ul uc, e = .returned (.tuple #[.agg #[.slice a n c], .agg #[.bool nb, .slice ua ul uc], .int .i64 0]) ∧ Mt (kb K 16) (invG g) (.agg #[.slice a n c]) w' ∧ IsInt w' (.agg #[.bool nb, .slice ua ul uc]) (invD g)) ∧ Below w.heap.size w w' := by
  have s := h.sz
  refine (invM_c v g K w h.m h.rc (by omega) hK1 h.bd (Nat.le_trans (kb_mono K s.2.2.1) hK)).mono ?_
  rintro e w' ⟨ho, hb⟩
  refine ⟨?_, hb⟩
  rcases ho with ⟨-, -, x, u, rfl, hx, hu⟩ | ⟨-, h2, -⟩ | ⟨h2, -⟩
  · have hx := hx.rebase (Nat.zero_le _)
    obtain ⟨a, c, rfl⟩ := hx.lit
    obtain ⟨nb, ua, ul, uc, rfl⟩ := hu.lit
    rw [inv_len, hn] at hx ⊢
    exact ⟨a, c, nb, ua, ul, uc, rfl, inv_mt (n := n) h hK1 hd hx, hu⟩
  · exact absurd h2 hd
  · have : sqB g = true := by unfold sqB; simp; exact ⟨s.1, hs⟩
    rw [this] at h2; cases h2
end Go.Proofs.YtkejdmdldhlkgaaGreatDoor

/- matrix: Adjugate of a square matrix. -/
namespace Go.Proofs.YtkejdmdldhlkgaaGreatDoor
open Num
open Go.ChangeShapes Go.WideShapes Go.ChangeAt Go.RowKit
set_option linter.unusedVariables false
set_option linter.unusedSimpArgs false
theorem Mt.adj {K n : Nat} {g : Grid} {v : Value} {w : World} (h : Mt K g v w) (hs : g.length = cols g) (hK1 : 1 ≤ K) (hK : kb K 16 ≤ 4294967296) (hn : g.length = n) :
    Calls Tryz.prog 104 #[v] w fun e w' => (∃ a c, e = .returned (.tuple #[.agg #[.slice a n c], .int .i64 0]) ∧ Mt (kb K 16) (adjG g) (.agg #[.slice a n c]) w') ∧ Below w.heap.size w w' := by
  have s := h.sz
  refine (adjM_c v g K w h.m h.rc (by omega) hK1 h.bd (Nat.le_trans (kb_mono K (by omega : g.length - 1 ≤ 16)) hK)).mono ?_
  rintro e w' ⟨ho, hb⟩
  refine ⟨?_, hb⟩
  rcases ho with ⟨-, x, rfl, hx⟩ | ⟨h2, -⟩
  · have hx := hx.rebase (Nat.zero_le _)
    obtain ⟨a, c, rfl⟩ := hx.lit
    rw [adj_len, hn] at hx ⊢
    exact ⟨a, c, rfl, hx, by rw [adj_cols s.1]; exact tab_rect _ _ _, ⟨by rw [adj_len]; omega, by rw [adj_cols s.1]; omega, by rw [adj_len]; omega, by rw [adj_cols s.1]; omega⟩, (adj_bd hK1 h.bd).mono (kb_mono K s.2.2.1)⟩
  · exact absurd (show sqB g = true by unfold sqB; simp; exact ⟨s.1, hs⟩) (by first | exact h2 | (rw [h2]; decide))
end Go.Proofs.YtkejdmdldhlkgaaGreatDoor

/- scheme: the matrix of powers; Left, Right, Full, Inverse. -/
namespace Go.Proofs.YtkejdmdldhlkgaaGreatDoor
open Pt
open Num
open Go.ChangeShapes Go.WideShapes Go.ChangeAt Go.RowKit
set_option linter.unusedVariables false
set_option linter.unusedSimpArgs false
attribute [local go_sem ↓] Go.wp_at_zero Go.wp_at_succ
theorem Mt.ofNewK {K : Nat} {g : Grid} {v : Value} {w : World} {n : Nat} (h : IsL 54 (PRow 0) 0 w v g) (hs : 0 < g.length ∧ 0 < cols g ∧ g.length ≤ 16 ∧ cols g ≤ 16) (hr : Rct g (cols g)) (hb : BdM K g) (hn : g.length = n) :
    Calls Tryz.prog 95 #[v] w fun e w' => (∃ a c, e = .returned (.tuple #[.agg #[.slice a n c], .int .i64 0]) ∧ Mt K g (.agg #[.slice a n c]) w') ∧ Below w.heap.size w w' := by
  refine (newM_c v g w h (fun i hi => by rw [hr i hi]; omega)).mono ?_
  rintro e w' ⟨ho, hB⟩
  refine ⟨?_, hB⟩
  rcases ho with ⟨-, u, rfl, hu⟩ | ⟨h2, -⟩
  · have hu2 := hu.rebase (Nat.zero_le _)
    obtain ⟨a, c, rfl⟩ := hu2.lit
    rw [hn] at hu2 ⊢
    exact ⟨a, c, rfl, hu2, hr, hs, hb⟩
  · exact absurd (fits_of hs hr) h2
/-- a point's powers, a row each -/
def pwG (n k : Nat) (f : Nat → Int × Int) : Grid := tab n k fun i j => powF (f i).1 (f i).2 k j
theorem pwG_len (n k : Nat) (f : Nat → Int × Int) : (pwG n k f).length = n := tab_len _ _ _
theorem pwG_cols {n k : Nat} (f : Nat → Int × Int) (h : 0 < n) : cols (pwG n k f) = k := tab_cols _ h
theorem powF_bd2 (a b : Int) (n i : Nat) (hp : PIn a b) (hn : n ≤ 16) (hi : i < n) : Bd 200 (powF a b n i) := by
  have h1 := (bd_pt hp.1 hp.2.1).pow i
  have h2 := (bd_pt hp.2.2.1 hp.2.2.2).pow (n - 1 - i)
  exact (h1.mul h2).mono (by omega)
theorem pwG_bd {n k : Nat} {f : Nat → Int × Int} (hin : AllIn n f) (hk : k ≤ 16) : BdM 200 (pwG n k f) :=
  tab_bd fun i j hi hj => powF_bd2 _ _ _ _ ((inB_iff _ _).1 (hin i hi)) hk hj
theorem pwG_row {n k i : Nat} {f : Nat → Int × Int} (hi : i < n) : ((pwG n k f).getD i []).length = k := tab_rowlen hi
theorem pwG_at {n k i j : Nat} {f : Nat → Int × Int} (hi : i < n) (hj : j < k) : ((pwG n k f).getD i []).getD j 0 = powF (f i).1 (f i).2 k j := tab_gat hi hj
theorem prow_of {w : World} {g k : Nat} {F : Nat → Int} {l : List Int} (h : IntsF IsInt w g 0 k F) (ht : typOf w g = some 41) (hk : k ≤ maxLen) (hl : l.length = k) (he : ∀ j, j < k → F j = l.getD j 0) : PRow 0 w (.slice (some ⟨g, 0, none⟩) k k) l := by
  subst hl
  exact ⟨_, _, rfl, Nat.le_refl _, hk, .inr ⟨g, 0, rfl, Nat.zero_le _, ht, h.congr he⟩⟩
set_option maxRecDepth 100000 in
set_option maxHeartbeats 4000000 in
theorem powers_c (b : Nat) (k1 k2 : Int) (n k : Nat) (f : Nat → Int × Int) (w : World) (h : SchAt w b k1 k2 n f) (hin : AllIn n f) (h1 : 1 ≤ k) (h2 : k ≤ 16) (h3 : 1 ≤ n) (h4 : n ≤ 16) :
    Calls Tryz.prog 56 #[.pointer (some ⟨b, 0, none⟩), .int .i64 k] w fun e w' => (∃ a c, e = .returned (.agg #[.slice a n c]) ∧ Mt 200 (pwG n k f) (.agg #[.slice a n c]) w') ∧ Below w.heap.size w w' := by
  have HIN := Lib.hid hin
  obtain ⟨-, -, pa, pc, c2, hp⟩ := h
  obtain ⟨pb, po, rfl, hpc, hpp⟩ : ∃ b off, pa = some ⟨b, off, none⟩ ∧ n ≤ pc ∧ PtsIn w b off n f := hp.elim (fun h => absurd h (by omega)) id
  have HP := Lib.hid hpp
  have zc2 := cell_lt c2
  clear hp hpp hin
  have hB := Below.refl w.heap.size w
  obtain ⟨G, hG⟩ : ∃ G, pwG n k f = G := ⟨_, rfl⟩
  have HG := Lib.hid hG
  have hgl : G.length = n := by rw [← hG]; exact pwG_len _ _ _
  rw [hG]
  have HGL := Lib.hid hgl
  clear hG hgl
  go_enter Tryz.func56, Tryz.ntmps56
  go_wp2
  go_loopw [5, 17] (fun v x wr => ∃ i : Nat, i ≤ n ∧ x = .int .i64 i ∧ Hid (OwnL 54 (PRow 0) w wr v (G.take i)) ∧ Hid (wr.cell? ⟨w.heap.size, 0, none⟩ = some (.slice none 0 0) ∧ wr.frozen? ⟨w.heap.size, 0, none⟩ = false ∧ typOf wr w.heap.size = some 34)) (fun _ x _ => n - (intOf x).toNat)
  case atStart => exact ⟨0, Nat.zero_le _, rfl, Lib.hid (OwnL.nil _ _ (by repeat (first | exact Below.refl _ _ | exact hB | refine Below.drew ?_ | refine below_drewN ?_ _ | refine bset ?_ (by simp <;> omega) _ | refine bal ?_ _))), Lib.hid ⟨by simp [go_sem], by simp [go_sem], by first | exact typ_fresh rfl | (rw [typ_drew]; exact typ_fresh rfl)⟩⟩
  case round =>
    obtain ⟨i, hi, rfl, hO, hR⟩ := hrel
    have hBr := hO.out.bel
    have hlen : (G.take i).length = i := by rw [List.length_take, HGL.out]; omega
    have HLEN := Lib.hid hlen
    obtain ⟨va, vc, hvv⟩ := hO.out.ex
    rw [hlen] at hvv
    subst hvv
    clear hlen
    by_cases hlt : i < n
    · have hltI : (i : Int) < (n : Int) := by omega
      obtain ⟨d0, d1⟩ := HP.out i hlt
      replace d0 := bkeep hBr d0
      replace d1 := bkeep hBr d1
      have zd := cell_lt d0
      have hpin := (inB_iff _ _).1 (HIN.out i hlt)
      have HT := Lib.hid (take_getD [] (show i < G.length by rw [HGL.out]; exact hlt))
      have HRW := Lib.hid (show (G.getD i []).length = k ∧ ∀ j, j < k → powF (f i).1 (f i).2 k j = (G.getD i []).getD j 0 from by
        rw [← HG.out]; exact ⟨pwG_row hlt, fun j hj => (pwG_at hlt hj).symm⟩)
      obtain ⟨row, hrow⟩ : ∃ r, G.getD i [] = r := ⟨_, rfl⟩
      rw [hrow] at HT HRW
      obtain ⟨q, hq⟩ : ∃ q, f i = q := ⟨_, rfl⟩
      rw [hq] at d0 d1 hpin HRW
      obtain ⟨q1, q2⟩ := q
      have PC := Lib.hid (fun W => ptPow_own q1 q2 k W hpin h2)
      have hLL : ((G.take i).length + 1) * 24 ≤ 140737488355328 := by rw [HLEN.out]; omega
      have hLM : (G.take i).length + 1 ≤ maxLen := by rw [HLEN.out]; unfold maxLen; omega
      have hBw := Below.refl wr.heap.size wr
      clear hq hpin hrow
      go_wp2_with fail
      (with_reducible refine (PC.out _).mono ?_)
      rintro e w5 ⟨⟨rg, rfl, hI, -, hty⟩, hb5⟩
      have hb5' : Below wr.heap.size wr w5 := bthen (by repeat (first | exact Below.refl _ _ | exact hBw | refine Below.drew ?_ | refine below_drewN ?_ _ | refine bset ?_ (by simp <;> omega) _ | refine bal ?_ _)) hb5
      have HR5 := Lib.hid (prow_of hI hty (by unfold maxLen; omega) HRW.out.1 HRW.out.2)
      have HO5 := Lib.hid (hO.out.below (prs_prow 0) hb5')
      have HR6 := Lib.hid (And.intro (bkeep hb5' hR.out.1) (And.intro (bkeepf hb5' hR.out.1 hR.out.2.1) (typ_keep hR.out.2.2 hb5')))
      clear PC hI hty hb5 hO
      go_wp2_with (at_builtin; refine appL elRow (prs_prow 0) (by decide) (by rfl) (by rfl) (HO5.out.below (prs_prow 0) (bal (Below.refl _ _) _)) (prow_keep HR5.out (bal (Below.refl _ _) _)) (by rfl) (by rfl) (cell_new (by simp) rfl) hLL hLM ?_)
      intro v' w8 hO8 hk8
      have HO8 := Lib.hid hO8
      rw [← HT.out] at HO8
      have HR8 := Lib.hid (And.intro (hk8.cell (typ_keep HR6.out.2.2 (bal (Below.refl _ _) _)) (by decide) (bkeep (bal (Below.refl _ _) _) HR6.out.1)) (And.intro (hk8.frz (typ_keep HR6.out.2.2 (bal (Below.refl _ _) _)) (by decide) (bkeepf (bal (Below.refl _ _) _) HR6.out.1 HR6.out.2.1)) (hk8.typ (typ_keep HR6.out.2.2 (bal (Below.refl _ _) _)) (by decide))))
      clear hO8 hk8
      go_wp2
      exact ⟨⟨i + 1, hlt, by go_num, HO8, HR8⟩, meas hlt (by go_num) rfl⟩
    · obtain rfl : n = i := by omega
      have hltI : ¬ (n : Int) < (n : Int) := by omega
      rw [List.take_of_length_le (by rw [HGL.out]; exact Nat.le_refl _)] at hO
      have HIS := Lib.hid (hO.out.isL.rebase (Nat.zero_le _))
      have HMT := Lib.hid (show (0 < G.length ∧ 0 < cols G ∧ G.length ≤ 16 ∧ cols G ≤ 16) ∧ Rct G (cols G) ∧ BdM 200 G from by
        rw [← HG.out]
        exact ⟨⟨by rw [pwG_len]; omega, by rw [pwG_cols f h3]; omega, by rw [pwG_len]; omega, by rw [pwG_cols f h3]; omega⟩, by rw [pwG_cols f h3]; exact tab_rect _ _ _, pwG_bd HIN.out h2⟩)
      have NC := Lib.hid (fun W (q : Below wr.heap.size wr W) => Mt.ofNewK (HIS.out.keep (prs_prow 0) q) HMT.out.1 HMT.out.2.1 HMT.out.2.2 HGL.out)
      have hBw := Below.refl wr.heap.size wr
      clear hO
      go_wp2_with fail
      (with_reducible refine (NC.out _ ?_).mono ?_); (repeat (first | exact Below.refl _ _ | exact hBw | refine Below.drew ?_ | refine below_drewN ?_ _ | refine bset ?_ (by simp <;> omega) _ | refine bal ?_ _))
      rintro e w9 ⟨⟨ma, mc, rfl, hm⟩, hb9⟩
      have hk9 : Below wr.heap.size wr w9 := bthen (by repeat (first | exact Below.refl _ _ | exact hBw | refine Below.drew ?_ | refine below_drewN ?_ _ | refine bset ?_ (by simp <;> omega) _ | refine bal ?_ _)) hb9
      have hB9 := bthen hBr hk9
      have HM := Lib.hid hm
      obtain ⟨r0, r0f, hty⟩ := hR.out
      replace r0f := bkeepf hk9 r0 r0f
      replace r0 := bkeep hk9 r0
      have HT := Lib.hid (typ_keep hty hk9)
      have zr := cell_lt r0
      have z9 : w.heap.size < w9.heap.size := zr
      clear hm NC hb9 hty
      go_wp2
      refine bodyPost_ret (v := .agg #[.slice ma n mc]) (by simp [results, Tryz.results56, go_sem, *]) rfl ⟨⟨ma, mc, rfl, ?_⟩, ?_⟩
      · first | exact (HM.out.al _).setM (p := ⟨w.heap.size, 0, none⟩) (typ_keep HT.out (bal (Below.refl _ _) _)) _ | exact (HM.out.setM (p := ⟨w.heap.size, 0, none⟩) HT.out _).al _ | exact (HM.out.setM (p := ⟨w.heap.size, 0, none⟩) HT.out _)
      ·
        repeat (first | exact Below.refl _ _ | exact hB9 | refine Below.drew ?_ | refine below_drewN ?_ _ | refine bset ?_ (by simp <;> omega) _ | refine bal ?_ _)
set_option maxRecDepth 100000 in
set_option maxHeartbeats 2000000 in
theorem fullS_c (b : Nat) (k1 k2 : Int) (n : Nat) (f : Nat → Int × Int) (w : World) (h : SchAt w b k1 k2 n f) (hin : AllIn n f) (h3 : 1 ≤ n) (h4 : n ≤ 16) :
    Calls Tryz.prog 14 #[.pointer (some ⟨b, 0, none⟩)] w fun e w' => (∃ a c, e = .returned (.agg #[.slice a n c]) ∧ Mt 200 (pwG n n f) (.agg #[.slice a n c]) w') ∧ Below w.heap.size w w' := by
  have PC := Lib.hid (fun W (q : Below w.heap.size w W) => powers_c b k1 k2 n n f W (h.keep q) hin h3 h4 h3 h4)
  obtain ⟨-, -, pa, pc, c2, -⟩ := h
  have zc := cell_lt c2
  have hB := Below.refl w.heap.size w
  go_enter Tryz.func14, Tryz.ntmps14
  go_wp2_with fail
  (with_reducible refine (PC.out _ ?_).mono ?_); (repeat (first | exact Below.refl _ _ | exact hB | refine Below.drew ?_ | refine below_drewN ?_ _ | refine bset ?_ (by simp <;> omega) _ | refine bal ?_ _))
  rintro e w1 ⟨⟨ma, mc, rfl, hm⟩, hb1⟩
  have hB1 : Below w.heap.size w w1 := bthen (by repeat (first | exact Below.refl _ _ | exact hB | refine Below.drew ?_ | refine below_drewN ?_ _ | refine bset ?_ (by simp <;> omega) _ | refine bal ?_ _)) hb1
  have HT := Lib.hid (show typOf w1 w.heap.size = some 34 from typ_keep (typ_fresh rfl) hb1)
  have r0 : w1.cell? ⟨w.heap.size, 0, none⟩ = some (.slice none 0 0) := bkeep hb1 (cell_new rfl rfl)
  have r0f : w1.frozen? ⟨w.heap.size, 0, none⟩ = false := bkeepf hb1 (cell_new rfl rfl) (by simp [go_sem])
  have HM := Lib.hid hm
  have zr := cell_lt r0
  clear PC hb1 hm hB
  go_wp2
  refine bodyPost_ret (v := .agg #[.slice ma n mc]) (by simp [results, Tryz.results14, go_sem, *]) rfl ⟨⟨ma, mc, rfl, HM.out.setM (p := ⟨w.heap.size, 0, none⟩) HT.out _⟩, bset hB1 (Nat.le_refl _) _⟩
end Go.Proofs.YtkejdmdldhlkgaaGreatDoor

/- scheme: Det. -/
namespace Go.Proofs.YtkejdmdldhlkgaaGreatDoor
open Pt
open Num
open Go.ChangeShapes Go.WideShapes Go.ChangeAt Go.RowKit
set_option linter.unusedVariables false
set_option linter.unusedSimpArgs false
attribute [local go_sem ↓] Go.wp_at_zero Go.wp_at_succ
theorem dist_le {p q : Int × Int} (h1 : inB p.1 p.2 = true) (h2 : inB q.1 q.2 = true) : (dist p q).natAbs ≤ 512 := by
  have := det_bd p.1 p.2 q.1 q.2 ((inB_iff _ _).1 h1) ((inB_iff _ _).1 h2)
  unfold dist; omega
/-- what Det has multiplied: all of the first j points, and of the next one the first i -/
def farS (f : Nat → Int × Int) (j i : Nat) : Int := Det.far (fun t => (f t).1) (fun t => (f t).2) j * Det.iprod i fun t => dist (f j) (f t)
theorem farS_0 (f : Nat → Int × Int) (j : Nat) : farS f j 0 = Det.far (fun t => (f t).1) (fun t => (f t).2) j := by unfold farS; rw [Det.iprod, Int.mul_one]
theorem farS_step (f : Nat → Int × Int) (j i : Nat) : farS f j (i + 1) = farS f j i * dist (f j) (f i) := by unfold farS; rw [Det.iprod, Int.mul_assoc]
theorem farS_row (f : Nat → Int × Int) (j : Nat) : farS f j j = Det.far (fun t => (f t).1) (fun t => (f t).2) (j + 1) := by
  unfold farS; rw [Det.far]
  rfl
theorem pow512_lt {a b K : Nat} (h : 9 * a + 9 * b < K) : 512 ^ a * 512 ^ b < 2 ^ K := by
  have e : (512 : Nat) = 2 ^ 9 := by decide
  rw [e, ← Nat.pow_mul, ← Nat.pow_mul, ← Nat.pow_add]
  exact Nat.pow_lt_pow_right (by decide) h
theorem farS_bd {n : Nat} {f : Nat → Int × Int} (h : AllIn n f) (hn : n ≤ 16) {j i K : Nat} (hK : 1224 < K) (hj : j < n) (hi : i ≤ j) : Bd K (farS f j i) := by
  have h1 : (Det.far (fun t => (f t).1) (fun t => (f t).2) j).natAbs ≤ 512 ^ (j * (j - 1) / 2) := Det.far_le fun a b ha hb => dist_le (h a (by omega)) (h b (by omega))
  have h2 : (Det.iprod i fun t => dist (f j) (f t)).natAbs ≤ 512 ^ i := Det.iprod_le fun t ht => dist_le (h j hj) (h t (by omega))
  unfold Bd farS
  rw [Int.natAbs_mul]
  have h3 : j * (j - 1) / 2 ≤ 120 := by
    have : j * (j - 1) ≤ 16 * 15 := Nat.mul_le_mul (by omega) (by omega)
    omega
  have h4 : (512 : Nat) ^ (j * (j - 1) / 2) ≤ 512 ^ 120 := Nat.pow_le_pow_right (by decide) h3
  have h5 : (512 : Nat) ^ i ≤ 512 ^ 16 := Nat.pow_le_pow_right (by decide) (by omega)
  exact Nat.lt_of_le_of_lt (Nat.mul_le_mul (Nat.le_trans h1 h4) (Nat.le_trans h2 h5)) (pow512_lt (a := 120) (b := 16) (K := K) (by omega))
set_option maxRecDepth 100000 in
set_option maxHeartbeats 8000000 in
theorem detS_c (b : Nat) (k1 k2 : Int) (n : Nat) (f : Nat → Int × Int) (w : World) (h : SchAt w b k1 k2 n f) (hin : AllIn n f) (h3 : 1 ≤ n) (h4 : n ≤ 16) :
    Calls Tryz.prog 15 #[.pointer (some ⟨b, 0, none⟩)] w fun e w' => (∃ u, e = .returned u ∧ IsInt w' u (Det.far (fun t => (f t).1) (fun t => (f t).2) n)) ∧ Below w.heap.size w w' := by
  have HIN := Lib.hid hin
  have HBD := Lib.hid (fun j i (hj : j < n) (hi : i ≤ j) => farS_bd (K := 2000) hin h4 (by decide) hj hi)
  obtain ⟨-, -, pa, pc, c2, hp⟩ := h
  obtain ⟨pb, po, rfl, hpc, hpp⟩ : ∃ b off, pa = some ⟨b, off, none⟩ ∧ n ≤ pc ∧ PtsIn w b off n f := hp.elim (fun h => absurd h (by omega)) id
  have HP := Lib.hid hpp
  have HC2 := Lib.hid c2
  have zc2 := cell_lt c2
  have zp := cell_lt (hpp 0 (by omega)).1
  clear hp hpp hin
  have hB := Below.refl w.heap.size w
  go_enter Tryz.func15, Tryz.ntmps15
  go_wp2_with fail
  (with_reducible refine (of_c 1 _ (by decide) (by decide)).mono ?_)
  rintro e w1 ⟨⟨ov, rfl, ho⟩, hb1⟩
  have hB1 : Below w.heap.size w w1 := bthen (by repeat (first | exact Below.refl _ _ | exact hB | refine Below.drew ?_ | refine below_drewN ?_ _ | refine bset ?_ (by simp <;> omega) _ | refine bal ?_ _)) hb1
  have HR := Lib.hid (And.intro (show w1.cell? ⟨w.heap.size, 0, none⟩ = some (.bool false) from bkeep hb1 (cell_new rfl rfl)) (And.intro (show w1.cell? ⟨w.heap.size, 1, none⟩ = some (.slice none 0 0) from bkeep hb1 (cell_new rfl rfl)) (And.intro (show w1.frozen? ⟨w.heap.size, 0, none⟩ = false from bkeepf hb1 (cell_new rfl rfl) (by simp [go_sem])) (show w1.frozen? ⟨w.heap.size, 1, none⟩ = false from bkeepf hb1 (cell_new rfl rfl) (by simp [go_sem])))))
  have HO := Lib.hid ho
  have zr := cell_lt HR.out.1
  obtain ⟨on, oa, ol, oc, rfl⟩ := ho.lit
  replace c2 := bkeep hB1 c2
  clear ho hb1
  have hBw1 := Below.refl w1.heap.size w1
  go_upto_region 4 with (fail)
  refine wp_name fun w2 hW2 => ?_
  have hk2 : Below w1.heap.size w1 w2 := by rw [hW2]; repeat (first | exact Below.refl _ _ | exact hBw1 | refine Below.drew ?_ | refine below_drewN ?_ _ | refine bset ?_ (by simp <;> omega) _ | refine bal ?_ _)
  have VD := Lib.hid (show VarI w1.heap.size 1 w2 from by rw [hW2]; exact ⟨typ_fresh rfl, on, oa, ol, oc, by simp [go_sem], by simp [go_sem], by simp [go_sem], by simp [go_sem], HO.out.keep (bal (Below.refl _ _) _)⟩)
  have HF := Lib.hid (fun V (q : Below w1.heap.size w1 V) => And.intro (bkeep q c2) (And.intro (bkeep q HR.out.1) (And.intro (bkeep q HR.out.2.1) (And.intro (bkeepf q HR.out.1 HR.out.2.2.1) (bkeepf q HR.out.2.1 HR.out.2.2.2)))))
  clear hW2 HO hBw1 c2
  obtain ⟨c2, -⟩ := HF.out w2 hk2
  have zc := cell_lt c2
  go_wp2
  go_loopw [19] (fun x wr => ∃ j : Nat, j ≤ n ∧ x = .int .i64 j ∧ Below w1.heap.size w1 wr ∧ Hid (VarI w1.heap.size (Det.far (fun t => (f t).1) (fun t => (f t).2) j) wr)) (fun x _ => n - (intOf x).toNat)
  case atStart => exact ⟨0, Nat.zero_le _, rfl, by first | exact hk2 | exact hk2.drew, by first | exact VD | exact Lib.hid (VD.out.keep (Below.refl _ _).drew)⟩
  case round =>
    obtain ⟨j, hj, rfl, hBr, hV⟩ := hrel
    have hBB := bthen hB1 hBr
    clear c2 zc
    obtain ⟨c2, r0, r1, r0f, r1f⟩ := HF.out wr hBr
    have zc := cell_lt c2
    by_cases hlt : j < n
    · have hltI : (j : Int) < (n : Int) := by omega
      obtain ⟨d0, d1⟩ := HP.out j hlt
      replace d0 := bkeep hBB d0
      replace d1 := bkeep hBB d1
      have zd := cell_lt d0
      have hpj := (inB_iff _ _).1 (HIN.out j hlt)
      have HPJ := Lib.hid hpj
      have HLT := Lib.hid hlt
      obtain ⟨q, hq⟩ : ∃ q, f j = q := ⟨_, rfl⟩
      have HQ := Lib.hid hq
      rw [hq] at d0 d1
      obtain ⟨q1, q2⟩ := q
      have hcap : (j : Int) ≤ (pc : Int) := by omega
      have hvl := typ_lt hV.out.1
      have hBw := Below.refl wr.heap.size wr
      clear hq hpj r0 r1 r0f r1f
      go_wp2
      refine wp_name fun w3 hW3 => ?_
      have hk3 : Below wr.heap.size wr w3 := by rw [hW3]; repeat (first | exact Below.refl _ _ | exact hBw | refine Below.drew ?_ | refine below_drewN ?_ _ | refine bset ?_ (by simp <;> omega) _ | refine bal ?_ _)
      have u0 : w3.cell? ⟨wr.heap.size, 0, none⟩ = some (.int .i64 q1) := by rw [hW3]; simp [go_sem]
      have u1 : w3.cell? ⟨wr.heap.size, 1, none⟩ = some (.int .i64 q2) := by rw [hW3]; simp [go_sem]
      have V3 := Lib.hid (hV.out.keep hk3)
      rw [← farS_0] at V3
      have hB3 := bthen hBr hk3
      have z3 := cell_lt u0
      have h13 : w1.heap.size < w3.heap.size := Nat.lt_of_lt_of_le hvl hk3.size
      have HU := Lib.hid (And.intro u0 u1)
      have HNE := Lib.hid (show ¬ wr.heap.size = w1.heap.size by omega)
      have HB3 := Lib.hid hB3
      have HZ1 := Lib.hid hvl
      clear hW3 hV hk3 d0 d1 u0 u1 hBw hBB hB3 hvl
      go_loopw [31] (fun x wq => ∃ i : Nat, i ≤ j ∧ x = .int .i64 i ∧ Out (fun q => q = w1.heap.size) w3 wq ∧ Hid (VarI w1.heap.size (farS f j i) wq)) (fun x _ => j - (intOf x).toNat)
      case atStart => exact ⟨0, Nat.zero_le _, rfl, Out.refl _ _, V3⟩
      case round =>
        obtain ⟨i, hi, rfl, hO, hVq⟩ := hrel
        rename World => wq
        have hBq : Below w1.heap.size w1 wq := HB3.out.trans (hO.to_below (fun k hk _ e => by have e2 : k = w1.heap.size := e; omega) HB3.out.size)
        have hBBq := bthen hB1 hBq
        by_cases hit : i < j
        · have hltJ : (i : Int) < (j : Int) := by omega
          have HIT := Lib.hid hit
          obtain ⟨d0, d1⟩ := HP.out i (by have := HLT.out; omega)
          replace d0 := bkeep hBBq d0
          replace d1 := bkeep hBBq d1
          have zd := cell_lt d0
          have hpi := (inB_iff _ _).1 (HIN.out i (by have := HLT.out; omega))
          have u0 := okeep hO HU.out.1 HNE.out
          have u1 := okeep hO HU.out.2 HNE.out
          have zu := cell_lt u0
          have hbd := HBD.out j i HLT.out (by omega)
          have HST := Lib.hid (farS_step f j i)
          have hpj := HPJ.out
          have hdl := dist_le (HIN.out j HLT.out) (HIN.out i (by have := HLT.out; omega))
          rw [HQ.out] at hpj HST hdl
          obtain ⟨p, hp⟩ : ∃ p, f i = p := ⟨_, rfl⟩
          rw [hp] at d0 d1 hpi HST hdl
          obtain ⟨p1, p2⟩ := p
          obtain ⟨cur, hcur⟩ : ∃ z, farS f j i = z := ⟨_, rfl⟩
          rw [hcur] at hVq HST hbd
          obtain ⟨-, cn, ca, cl, cc, m0, m1, m0f, m1f, mI⟩ := hVq.out
          obtain ⟨D, hD⟩ : ∃ D, q1 * p2 - p1 * q2 = D := ⟨_, rfl⟩
          have hDb : -512 ≤ D ∧ D ≤ 512 := by have h2 : (q1 * p2 - p1 * q2).natAbs ≤ 512 := hdl; rw [hD] at h2; omega
          have HSTD := Lib.hid (show farS f j (i + 1) = cur * D from by rw [HST.out, ← hD]; rfl)
          have DC := Lib.hid (fun W => (show Calls Tryz.prog 58 #[pv q1 q2, pv p1 p2] W fun e w' => e = .returned (.tuple #[.int .i64 D, .int .i64 0]) ∧ Below W.heap.size W w' from by rw [← hD]; exact ptDet_yes q1 q2 p1 p2 W hpj hpi))
          have TC := Lib.hid (fun W (q : Below wq.heap.size wq W) => times_c (.agg #[.bool cn, .slice ca cl cc]) cur D 2000 W (mI.keep q) hbd (by decide) (by omega) (by omega))
          have HCE := Lib.hid (And.intro m0 (And.intro m1 (And.intro m0f m1f)))
          have zm := cell_lt m0
          have hBw := Below.refl wq.heap.size wq
          clear hp hcur hD hdl hpi hpj hbd mI hit HST
          go_wp2_with fail
          (with_reducible refine (DC.out _).mono ?_)
          rintro e w4 ⟨rfl, hb4⟩
          have hk4 : Below wq.heap.size wq w4 := bthen (by repeat (first | exact Below.refl _ _ | exact hBw | refine Below.drew ?_ | refine below_drewN ?_ _ | refine bset ?_ (by simp <;> omega) _ | refine bal ?_ _)) hb4
          clear m0 m1 m0f m1f d0 d1 u0 u1 zd zu zm hb4 hBw
          have m0 := bkeep hk4 HCE.out.1
          have m1 := bkeep hk4 HCE.out.2.1
          have zm := cell_lt m0
          have hBw := Below.refl w4.heap.size w4
          go_wp2_with fail
          (with_reducible refine (TC.out _ ?_).mono ?_); (repeat (first | exact Below.refl _ _ | exact hk4 | refine Below.drew ?_ | refine below_drewN ?_ _ | refine bset ?_ (by simp <;> omega) _ | refine bal ?_ _))
          rintro e w5 ⟨⟨u, rfl, hu⟩, hb5⟩
          have hk5 : Below wq.heap.size wq w5 := bthen (by repeat (first | exact Below.refl _ _ | exact hk4 | refine Below.drew ?_ | refine below_drewN ?_ _ | refine bset ?_ (by simp <;> omega) _ | refine bal ?_ _)) hb5
          have HU5 := Lib.hid hu
          obtain ⟨un, ua, ul, uc, rfl⟩ := hu.lit
          clear m0 m1 zm hb5 hBw hu hk4 DC TC
          have m0 := bkeep hk5 HCE.out.1
          have m1 := bkeep hk5 HCE.out.2.1
          have m0f := bkeepf hk5 HCE.out.1 HCE.out.2.2.1
          have m1f := bkeepf hk5 HCE.out.2.1 HCE.out.2.2.2
          have zm := cell_lt m0
          have HV2 := Lib.hid ((hVq.out.keep hk5).put HU5.out)
          rw [← HSTD.out] at HV2
          have hO2 : Out (fun q => q = w1.heap.size) w3 ((w5.setCell ⟨w1.heap.size, 0, none⟩ (.bool un)).setCell ⟨w1.heap.size, 1, none⟩ (.slice ua ul uc)) := (hO.below hk5).set2 (fun _ => rfl) _ _
          have hlJ := HIT.out
          clear hO hVq HSTD HU5 HCE hk5 hBq hBBq
          go_wp2
          exact ⟨⟨i + 1, hlJ, by go_num, hO2, HV2⟩, meas hlJ (by go_num) rfl⟩
        · obtain rfl : j = i := by omega
          have hltJ : ¬ (j : Int) < (j : Int) := by omega
          have VE := Lib.hid hVq.out
          rw [farS_row] at VE
          have hlJ := HLT.out
          clear hO hVq
          go_wp2
          exact ⟨⟨j + 1, hlJ, by go_num, hBq, VE⟩, meas hlJ (by go_num) rfl⟩
    · obtain rfl : n = j := by omega
      have hltI : ¬ (n : Int) < (n : Int) := by omega
      obtain ⟨-, cn, ca, cl, cc, m0, m1, -, -, mI⟩ := hV.out
      have zm := cell_lt m0
      have hp := Lib.hid (mI.put2 r0 r1)
      clear hV mI
      go_wp2
      refine bodyPost_ret (v := .agg #[.bool cn, .slice ca cl cc]) (by simp [results, Tryz.results15, go_sem, *]) rfl ⟨⟨_, rfl, hp.out _ _⟩, ?_⟩
      repeat (first | exact Below.refl _ _ | exact hBB | refine Below.drew ?_ | refine below_drewN ?_ _ | refine bset ?_ (by simp <;> omega) _ | refine bal ?_ _)
end Go.Proofs.YtkejdmdldhlkgaaGreatDoor

/- scheme: Inverse. -/
namespace Go.Proofs.YtkejdmdldhlkgaaGreatDoor
open Pt
open Num
open Go.ChangeShapes Go.WideShapes Go.ChangeAt Go.RowKit
set_option linter.unusedVariables false
set_option linter.unusedSimpArgs false
attribute [local go_sem ↓] Go.wp_at_zero Go.wp_at_succ
theorem Mt.invB {K n : Nat} {g : Grid} {v : Value} {w : World} (h : Mt K g v w) (hs : g.length = cols g) (hK1 : 1 ≤ K) (hK : kb K 16 ≤ 4294967296) (hd : Det.detE g.length (gat g) ≠ 0) (hn : g.length = n) :
    Calls Tryz.prog 65 #[v] w fun e w' => (∃ a c nb ua ul uc, e = .returned (.tuple #[.agg #[.slice a n c], .agg #[.bool nb, .slice ua ul uc], .int .i64 0]) ∧ Mt (kb K 16) (invG g) (.agg #[.slice a n c]) w' ∧ IsM w.heap.size w' (.agg #[.slice a n c]) (invG g) ∧ IsInt w' (.agg #[.bool nb, .slice ua ul uc]) (invD g)) ∧ Below w.heap.size w w' := by
  have s := h.sz
  refine (invM_c v g K w h.m h.rc (by omega) hK1 h.bd (Nat.le_trans (kb_mono K s.2.2.1) hK)).mono ?_
  rintro e w' ⟨ho, hb⟩
  refine ⟨?_, hb⟩
  rcases ho with ⟨-, -, x, u, rfl, hx, hu⟩ | ⟨-, h2, -⟩ | ⟨h2, -⟩
  · have hx0 := hx
    have hx := hx.rebase (Nat.zero_le _)
    obtain ⟨a, c, rfl⟩ := hx.lit
    obtain ⟨nb, ua, ul, uc, rfl⟩ := hu.lit
    rw [inv_len, hn] at hx hx0 ⊢
    exact ⟨a, c, nb, ua, ul, uc, rfl, inv_mt (n := n) h hK1 hd hx, hx0, hu⟩
  · exact absurd h2 hd
  · have : sqB g = true := by unfold sqB; simp; exact ⟨s.1, hs⟩
    rw [this] at h2; cases h2
theorem pwG_det (n : Nat) (f : Nat → Int × Int) : Det.detE n (gat (pwG n n f)) = Det.far (fun t => (f t).1) (fun t => (f t).2) n := by
  rw [← Det.van]
  refine Det.detE_congr fun i j hi hj => ?_
  rw [show gat (pwG n n f) i j = powF (f i).1 (f i).2 n j from tab_gat hi hj]
  rfl
theorem pwG_sq {n : Nat} (f : Nat → Int × Int) (h : 0 < n) : (pwG n n f).length = cols (pwG n n f) := by rw [pwG_len, pwG_cols f h]
theorem Sch.n1 {k1 k2 : Int} {n : Nat} {f : Nat → Int × Int} (h : Sch k1 k2 n f) : 1 ≤ n := by have := h.cnt; have := h.len; unfold Cnt at *; omega
theorem Sch.n15 {k1 k2 : Int} {n : Nat} {f : Nat → Int × Int} (h : Sch k1 k2 n f) : n ≤ 15 := by have := h.cnt; have := h.len; unfold Cnt at *; omega
theorem Sch.det {k1 k2 : Int} {n : Nat} {f : Nat → Int × Int} (h : Sch k1 k2 n f) : Det.detE (pwG n n f).length (gat (pwG n n f)) ≠ 0 := by
  rw [pwG_len, pwG_det]; exact h.far
set_option maxRecDepth 100000 in
set_option maxHeartbeats 4000000 in
theorem invS_c (b : Nat) (k1 k2 : Int) (n : Nat) (f : Nat → Int × Int) (w : World) (h : SchAt w b k1 k2 n f) (hs : Sch k1 k2 n f) :
    Calls Tryz.prog 19 #[.pointer (some ⟨b, 0, none⟩)] w fun e w' => (∃ a c nb ua ul uc, e = .returned (.tuple #[.agg #[.slice a n c], .agg #[.bool nb, .slice ua ul uc]]) ∧ Mt (kb 200 16) (invG (pwG n n f)) (.agg #[.slice a n c]) w' ∧ IsInt w' (.agg #[.bool nb, .slice ua ul uc]) (invD (pwG n n f))) ∧ Below w.heap.size w w' := by
  have FC := Lib.hid (fun W (q : Below w.heap.size w W) => fullS_c b k1 k2 n f W (h.keep q) hs.all hs.n1 (Nat.le_trans hs.n15 (by decide)))
  have HS := Lib.hid hs
  have zc := cell_lt h.c0
  clear h hs
  have hB := Below.refl w.heap.size w
  go_enter Tryz.func19, Tryz.ntmps19
  go_wp2_with fail
  (with_reducible refine (FC.out _ ?_).mono ?_); (repeat (first | exact Below.refl _ _ | exact hB | refine Below.drew ?_ | refine below_drewN ?_ _ | refine bset ?_ (by simp <;> omega) _ | refine bal ?_ _))
  rintro e w1 ⟨⟨fa, fc, rfl, hf⟩, hb1⟩
  have hB1 : Below w.heap.size w w1 := bthen (by repeat (first | exact Below.refl _ _ | exact hB | refine Below.drew ?_ | refine below_drewN ?_ _ | refine bset ?_ (by simp <;> omega) _ | refine bal ?_ _)) hb1
  have r0 : w1.cell? ⟨w.heap.size, 0, none⟩ = some (.slice none 0 0) := bkeep hb1 (by simp [go_sem])
  have r0f : w1.frozen? ⟨w.heap.size, 0, none⟩ = false := bkeepf hb1 (v := .slice none 0 0) (by simp [go_sem]) (by simp [go_sem])
  have s0 : w1.cell? ⟨w.heap.size + 1, 0, none⟩ = some (.bool false) := bkeep hb1 (by simp [go_sem])
  have s1 : w1.cell? ⟨w.heap.size + 1, 1, none⟩ = some (.slice none 0 0) := bkeep hb1 (by simp [go_sem])
  have s0f : w1.frozen? ⟨w.heap.size + 1, 0, none⟩ = false := bkeepf hb1 (v := .bool false) (by simp [go_sem]) (by simp [go_sem])
  have s1f : w1.frozen? ⟨w.heap.size + 1, 1, none⟩ = false := bkeepf hb1 (v := .slice none 0 0) (by simp [go_sem]) (by simp [go_sem])
  have HR := Lib.hid (And.intro r0 (And.intro r0f (And.intro s0 (And.intro s1 (And.intro s0f s1f)))))
  have zs := cell_lt s0
  have HZ := Lib.hid zs
  have IC := Lib.hid (fun W (q : Below w1.heap.size w1 W) => Mt.invB (n := n) (hf.keep q) (pwG_sq f HS.out.n1) (by decide) (by decide) HS.out.det (pwG_len n n f))
  have hBw := Below.refl w1.heap.size w1
  clear FC hb1 hf hB r0 r0f s0 s1 s0f s1f
  go_wp2_with fail
  (with_reducible refine (IC.out _ ?_).mono ?_); (repeat (first | exact Below.refl _ _ | exact hBw | refine Below.drew ?_ | refine below_drewN ?_ _ | refine bset ?_ (by simp <;> omega) _ | refine bal ?_ _))
  rintro e w2 ⟨⟨va, vc, nb, ua, ul, uc, rfl, hm, hmb, hi⟩, hb2⟩
  have hk2 : Below w1.heap.size w1 w2 := bthen (by repeat (first | exact Below.refl _ _ | exact hBw | refine Below.drew ?_ | refine below_drewN ?_ _ | refine bset ?_ (by simp <;> omega) _ | refine bal ?_ _)) hb2
  have hmb2 := hmb.rebase (show w1.heap.size ≤ _ from (show Below w1.heap.size w1 _ by repeat (first | exact Below.refl _ _ | exact hBw | refine Below.drew ?_ | refine below_drewN ?_ _ | refine bset ?_ (by simp <;> omega) _ | refine bal ?_ _)).size)
  have HM := Lib.hid (And.intro hm (And.intro hmb2 hi))
  have r0 := bkeep hk2 HR.out.1
  have r0f := bkeepf hk2 HR.out.1 HR.out.2.1
  have s0 := bkeep hk2 HR.out.2.2.1
  have s1 := bkeep hk2 HR.out.2.2.2.1
  have s0f := bkeepf hk2 HR.out.2.2.1 HR.out.2.2.2.2.1
  have s1f := bkeepf hk2 HR.out.2.2.2.1 HR.out.2.2.2.2.2
  have hB2 := bthen hB1 hk2
  have zr := cell_lt r0
  have zs2 := cell_lt s0
  clear IC hb2 hm hmb hmb2 hi hBw hk2 HR
  go_wp2
  refine wp_name fun w3 hW3 => ?_
  have hBw := Below.refl w2.heap.size w2
  have hk3 : Below w2.heap.size w2 w3 := by rw [hW3]; repeat (first | exact Below.refl _ _ | exact hBw | refine Below.drew ?_ | refine below_drewN ?_ _ | refine bset ?_ (by simp <;> omega) _ | refine bal ?_ _)
  have m0 : w3.cell? ⟨w2.heap.size, 0, none⟩ = some (.slice va n vc) := by rw [hW3]; simp [go_sem]
  have i0 : w3.cell? ⟨w2.heap.size + 1, 0, none⟩ = some (.bool nb) := by rw [hW3]; simp [go_sem]
  have i1 : w3.cell? ⟨w2.heap.size + 1, 1, none⟩ = some (.slice ua ul uc) := by rw [hW3]; simp [go_sem]
  clear hW3 hBw
  replace r0f := bkeepf hk3 r0 r0f
  replace s0f := bkeepf hk3 s0 s0f
  replace s1f := bkeepf hk3 s1 s1f
  replace r0 := bkeep hk3 r0
  replace s0 := bkeep hk3 s0
  replace s1 := bkeep hk3 s1
  have zm := cell_lt m0
  have zi := cell_lt i0
  have hB3 := bthen hB2 hk3
  have n1 : ¬ w2.heap.size = w.heap.size := by omega
  have n2 : ¬ w2.heap.size = w.heap.size + 1 := by omega
  have n3 : ¬ w2.heap.size + 1 = w.heap.size := by omega
  have HM3 := Lib.hid (And.intro (HM.out.1.keep hk3) (And.intro (HM.out.2.1.keep hk3) (HM.out.2.2.keep hk3)))
  have HL := Lib.hid (((Lim.refl w3).slice r0 (.slice va n vc)))
  have HZ2 := Lib.hid HZ.out
  clear hk3 HM
  go_region
  all_goals
    have hL1 := (Lim.refl w3).slice r0 (.slice va n vc)
    have s0' := cell_far s0 (p := ⟨w.heap.size, 0, none⟩) (addr_ne (by omega)) (.slice va n vc)
    have s1' := cell_far s1 (p := ⟨w.heap.size, 0, none⟩) (addr_ne (by omega)) (.slice va n vc)
    have hL2 := hL1.trans (Lim.set2 s0' s1' (.bool nb) (.slice ua ul uc))
    have hO : Out (fun q => q < w1.heap.size) w3 (((w3.setCell ⟨w.heap.size, 0, none⟩ (.slice va n vc)).setCell ⟨w.heap.size + 1, 0, none⟩ (.bool nb)).setCell ⟨w.heap.size + 1, 1, none⟩ (.slice ua ul uc)).drew := (((((Out.refl _ w3).set (p := ⟨w.heap.size, 0, none⟩) (fun _ => by show w.heap.size < w1.heap.size; have := HZ2.out; omega) _).set2 (g := w.heap.size + 1) (o := 0) (fun _ => HZ2.out) _ _))).drew
    have HMF := Lib.hid (show Mt (kb 200 16) (invG (pwG n n f)) (.agg #[.slice va n vc]) (((w3.setCell ⟨w.heap.size, 0, none⟩ (.slice va n vc)).setCell ⟨w.heap.size + 1, 0, none⟩ (.bool nb)).setCell ⟨w.heap.size + 1, 1, none⟩ (.slice ua ul uc)).drew from ⟨(HM3.out.2.1.out hO (fun q hq => Nat.not_lt.2 hq) hL2).rebase (Nat.zero_le _), HM3.out.1.rc, HM3.out.1.sz, HM3.out.1.bd⟩)
    have HIF := Lib.hid (HM3.out.2.2.lim hL2)
    have hBF := bset (bset (bset hB3 (p := ⟨w.heap.size, 0, none⟩) (Nat.le_refl _) (.slice va n vc)) (p := ⟨w.heap.size + 1, 0, none⟩) (by show w.heap.size ≤ w.heap.size + 1; omega) (.bool nb)) (p := ⟨w.heap.size + 1, 1, none⟩) (by show w.heap.size ≤ w.heap.size + 1; omega) (.slice ua ul uc)
    clear hO hL1 hL2 HM3 HL
    go_wp2
    refine bodyPost_ret (v := .tuple #[.agg #[.slice va n vc], .agg #[.bool nb, .slice ua ul uc]]) (by simp [results, Tryz.results19, go_sem, *]) rfl ⟨⟨va, vc, nb, ua, ul, uc, rfl, HMF.out, (by first | exact HIF.out | exact HIF.out.lim (Lim.refl _).drew)⟩, ?_⟩
    repeat (first | exact Below.refl _ _ | exact hBF | refine Below.drew ?_ | refine below_drewN ?_ _ | refine bset ?_ (by simp <;> omega) _ | refine bal ?_ _)
end Go.Proofs.YtkejdmdldhlkgaaGreatDoor

