/- Texts of this seat, laid together: MwI, MwS, MwD, MwE, MwL, MwM, MkE. Each opens with its own remark, which says what it proves, and under which conditions. -/
import Derived.Test.YthlphfjmdgcpdaaGreatDoorW27
import Derived.Test.YthlphfjmdgcpdaaGreatDoorW26
import Derived.Test.YthlphfjmdgcpdaaGreatDoorW15
import Derived.Test.YthlphfjmdgcpdaaGreatDoorW17
set_option linter.unusedVariables false
set_option linter.unusedSimpArgs false
/- matrix: Same. -/
namespace Go.Proofs.YthlphfjmdgcpdaaGreatDoor
open Num
open Go.ChangeShapes Go.WideShapes Go.ChangeAt Go.RowKit
set_option linter.unusedVariables false
set_option linter.unusedSimpArgs false
attribute [local go_sem ↓] Go.wp_at_zero Go.wp_at_succ
set_option maxRecDepth 100000 in
set_option maxHeartbeats 8000000 in
theorem eqFunc_c (va vb : Value) (g h : Grid) (w : World) (ha : IsL 59 (PRow 0) 0 w va g) (hb : IsL 59 (PRow 0) 0 w vb h) (hgl : g.length ≤ 65536) (hg : ∀ i, i < g.length → (g.getD i []).length ≤ 1099511627775) (hh : ∀ i, i < h.length → (h.getD i []).length ≤ 1099511627775) :
    Calls Tryz.prog 74 #[va, vb, .func (.func 75) #[] #[]] w fun e w' => e = .returned (.bool (decide (g = h))) ∧ Below w.heap.size w w' := by
  have HA := Lib.hid ha
  have HBB := Lib.hid hb
  have HG := Lib.hid (And.intro hg hh)
  obtain ⟨aa, ca, rfl, -⟩ : ∃ a c, va = .slice a g.length c ∧ True := by obtain ⟨a, c, e, _⟩ := ha.view; exact ⟨a, c, e, trivial⟩
  obtain ⟨ab, cb, rfl, -⟩ : ∃ a c, vb = .slice a h.length c ∧ True := by obtain ⟨a, c, e, _⟩ := hb.view; exact ⟨a, c, e, trivial⟩
  clear ha hb hg hh
  obtain ⟨q, hq⟩ : ∃ q, decide (g = h) = q := ⟨_, rfl⟩
  have HQ := Lib.hid hq
  rw [hq]
  clear hq
  have hB := Below.refl w.heap.size w
  by_cases hl : g.length = h.length
  · obtain ⟨n, hn⟩ : ∃ n, g.length = n := ⟨_, rfl⟩
    have hn2 : h.length = n := by rw [← hl]; exact hn
    have HN := Lib.hid (And.intro hn hn2)
    rw [hn] at hgl ⊢
    rw [hn2]
    clear hl hn hn2
    have hnn : ((n : Int) != (n : Int)) = false := by simp
    go_enter Tryz.func74, Tryz.ntmps74
    go_wp2
    go_loopw [17] (fun x wr => ∃ j : Nat, j ≤ n ∧ x = .int .i64 j ∧ Below w.heap.size w wr ∧ Hid (∀ t, t < j → g.getD t [] = h.getD t [])) (fun x _ => n - (intOf x).toNat)
    case atStart => exact ⟨0, Nat.zero_le _, rfl, hB, Lib.hid (fun t ht => by omega)⟩
    case round =>
      obtain ⟨j, hj, rfl, hBr, hE⟩ := hrel
      by_cases hlt : j < n
      · have hltI : (j : Int) < (n : Int) := by omega
        obtain ⟨c1, gb1, go1, ra1, rc1, e1, hu1, hp1⟩ := (HA.out.keep (prs_prow 0) hBr).row (i := j) (by rw [HN.out.1]; exact hlt)
        obtain ⟨rfl, -, rfl⟩ := Value.slice.inj e1
        obtain ⟨c2, gb2, go2, ra2, rc2, e2, hu2, hp2⟩ := (HBB.out.keep (prs_prow 0) hBr).row (i := j) (by rw [HN.out.2]; exact hlt)
        obtain ⟨rfl, -, rfl⟩ := Value.slice.inj e2
        have b1 := HG.out.1 j (by rw [HN.out.1]; exact hlt)
        have b2 := HG.out.2 j (by rw [HN.out.2]; exact hlt)
        obtain ⟨l1, hl1⟩ : ∃ l, g.getD j [] = l := ⟨_, rfl⟩
        obtain ⟨l2, hl2⟩ : ∃ l, h.getD j [] = l := ⟨_, rfl⟩
        rw [hl1] at hu1 hp1 b1
        rw [hl2] at hu2 hp2 b2
        have HL := Lib.hid (And.intro hl1 hl2)
        have KC := Lib.hid (fun W (q : Below wr.heap.size wr W) => rowSame_c (.slice ra1 l1.length rc1) (.slice ra2 l2.length rc2) l1 l2 W (hp1.keep lims_int q) (hp2.keep lims_int q) b1 b2)
        have z1 := cell_lt hu1
        have z2 := cell_lt hu2
        have hBw := Below.refl wr.heap.size wr
        clear e1 e2 hp1 hp2 b1 b2 hl1 hl2
        obtain ⟨p, hp⟩ : ∃ p, decide (l1 = l2) = p := ⟨_, rfl⟩
        have HP := Lib.hid hp
        rw [hp] at KC
        clear hp
        go_wp2_with fail
        (with_reducible refine (KC.out _ ?_).mono ?_); (repeat (first | exact Below.refl _ _ | exact hBw | refine Below.drew ?_ | refine below_drewN ?_ _ | refine bset ?_ (by simp <;> omega) _ | refine bal ?_ _))
        rintro e w5 ⟨rfl, hb5⟩
        have hB5 := bthen hBr (bthen (show Below wr.heap.size wr _ by repeat (first | exact Below.refl _ _ | exact hBw | refine Below.drew ?_ | refine below_drewN ?_ _ | refine bset ?_ (by simp <;> omega) _ | refine bal ?_ _)) hb5)
        clear KC hu1 hu2
        cases p with
        | true =>
          have HE2 := Lib.hid (show ∀ t, t < j + 1 → g.getD t [] = h.getD t [] from fun t ht => by
            by_cases e : t = j
            · subst e; rw [HL.out.1, HL.out.2]; exact of_decide_eq_true HP.out
            · exact hE.out t (by omega))
          go_wp2
          exact ⟨⟨j + 1, hlt, by go_num, hB5, HE2⟩, meas hlt (by go_num) rfl⟩
        | false =>
          have HNE := Lib.hid (show q = false from by
            rw [← HQ.out]
            exact decide_eq_false fun e => (of_decide_eq_false HP.out) (by rw [← HL.out.1, ← HL.out.2, e]))
          go_wp2
          go_ret
          exact ⟨by rw [HNE.out]; rfl, hB5⟩
      · obtain rfl : j = n := by omega
        have HEQ := Lib.hid (show q = true from by
          rw [← HQ.out]
          exact decide_eq_true (list_ext (d := []) (by rw [HN.out.1, HN.out.2]) (fun t ht => hE.out t (by rw [← HN.out.1]; exact ht))))
        go_wp2
        go_ret
        exact ⟨by rw [HEQ.out]; rfl, hBr⟩
  · have hnI : ((g.length : Int) != (h.length : Int)) = true := by simp; omega
    have HNE := Lib.hid (show q = false from by rw [← HQ.out]; exact decide_eq_false fun e => hl (by rw [e]))
    go_enter Tryz.func74, Tryz.ntmps74
    go_wp2
    go_ret
    exact ⟨by rw [HNE.out]; rfl, by repeat (first | exact Below.refl _ _ | exact hB | refine Below.drew ?_ | refine below_drewN ?_ _ | refine bset ?_ (by simp <;> omega) _ | refine bal ?_ _)⟩
set_option maxRecDepth 100000 in
set_option maxHeartbeats 2000000 in
theorem sameM_c (va vb : Value) (g h : Grid) (w : World) (ha : IsM 0 w va g) (hb : IsM 0 w vb h) (hgl : g.length ≤ 65536) (hg : ∀ i, i < g.length → (g.getD i []).length ≤ 1099511627775) (hh : ∀ i, i < h.length → (h.getD i []).length ≤ 1099511627775) :
    Calls Tryz.prog 30 #[va, vb] w fun e w' => e = .returned (.bool (decide (g = h))) ∧ Below w.heap.size w w' := by
  obtain ⟨aa, ca, rfl, la⟩ := ha
  obtain ⟨ab, cb, rfl, lb⟩ := hb
  have EC := Lib.hid (fun W (q : Below w.heap.size w W) => eqFunc_c (.slice aa g.length ca) (.slice ab h.length cb) g h W (la.keep (prs_prow 0) q) (lb.keep (prs_prow 0) q) hgl hg hh)
  clear la lb hg hh hgl
  obtain ⟨q, hq⟩ : ∃ q, decide (g = h) = q := ⟨_, rfl⟩
  rw [hq] at EC ⊢
  clear hq
  have hB := Below.refl w.heap.size w
  go_enter Tryz.func30, Tryz.ntmps30
  go_wp2_with fail
  (with_reducible refine (EC.out _ ?_).mono ?_); (repeat (first | exact Below.refl _ _ | exact hB | refine Below.drew ?_ | refine below_drewN ?_ _ | refine bset ?_ (by simp <;> omega) _ | refine bal ?_ _))
  rintro e w1 ⟨rfl, hb1⟩
  have hB1 : Below w.heap.size w w1 := bthen (by repeat (first | exact Below.refl _ _ | exact hB | refine Below.drew ?_ | refine below_drewN ?_ _ | refine bset ?_ (by simp <;> omega) _ | refine bal ?_ _)) hb1
  clear EC
  go_wp2
  go_ret
  exact ⟨rfl, hB1⟩
end Go.Proofs.YthlphfjmdgcpdaaGreatDoor

/- matrices that New makes: what is done to them, in one form. -/
namespace Go.Proofs.YthlphfjmdgcpdaaGreatDoor
open Num
open Go.ChangeShapes Go.WideShapes Go.ChangeAt Go.RowKit
set_option linter.unusedVariables false
set_option linter.unusedSimpArgs false
theorem fits_yes2 {g : Grid} (h : fitsE g = 0) : (0 < g.length ∧ 0 < cols g ∧ g.length ≤ 16 ∧ cols g ≤ 16) ∧ Rct g (cols g) := by
  unfold fitsE at h
  split at h
  · cases h
  · split at h
    · cases h
    · split at h
      · refine ⟨⟨by omega, by omega, by omega, by omega⟩, fun i hi => ?_⟩
        rename_i h3
        exact h3 i hi
      · cases h
theorem i64_bd2 {w : World} {v : Value} {l : List Int} (h : RowI w v l) : ∀ j, Bd 64 (l.getD j 0) := fun j => by
  obtain ⟨a, c, -, h⟩ := h
  by_cases hj : j < l.length
  · obtain ⟨b, off, -, -, h5⟩ := h j hj
    unfold I64 at h5; unfold Bd; omega
  · rw [List.getD_eq_getElem?_getD, List.getElem?_eq_none (by omega)]; exact bd_zero
theorem i64_bdM2 {w : World} {v : Value} {g : Grid} (h : GridI w v g) : BdM 64 g := fun i j => by
  obtain ⟨a, c, -, h⟩ := h
  by_cases hi : i < g.length
  · obtain ⟨b, off, u, -, -, hr⟩ := h i hi
    exact i64_bd2 hr j
  · unfold gat
    rw [List.getD_eq_getElem?_getD (l := g), List.getElem?_eq_none (by omega)]
    simp [bd_zero]
/-- a matrix in memory, of sixteen rows and columns at most -/
structure Mt (k : Nat) (g : Grid) (v : Value) (w : World) : Prop where
  m : IsM 0 w v g
  rc : Rct g (cols g)
  sz : 0 < g.length ∧ 0 < cols g ∧ g.length ≤ 16 ∧ cols g ≤ 16
  bd : BdM k g
theorem Mt.keep {k : Nat} {g : Grid} {v : Value} {w w' : World} (h : Mt k g v w) (b : Below w.heap.size w w') : Mt k g v w' := ⟨h.m.keep b, h.rc, h.sz, h.bd⟩
theorem Mt.mono {k m : Nat} {g : Grid} {v : Value} {w : World} (h : Mt k g v w) (hk : k ≤ m) : Mt m g v w := ⟨h.m, h.rc, h.sz, h.bd.mono hk⟩
theorem Mt.al {k : Nat} {g : Grid} {v : Value} {w : World} (h : Mt k g v w) (o : Obj) : Mt k g v (w.alloc o) := h.keep (bal (Below.refl _ _) _)
theorem Mt.dr {k : Nat} {g : Grid} {v : Value} {w : World} (h : Mt k g v w) : Mt k g v w.drew := h.keep (Below.refl _ _).drew
theorem Mt.setM {k : Nat} {g : Grid} {v : Value} {w : World} (h : Mt k g v w) {p : Addr} (ht : typOf w p.block = some 27) (u : Value) : Mt k g v (w.setCell p u) := ⟨h.m.setM ht u, h.rc, h.sz, h.bd⟩
theorem Mt.times {k m n : Nat} {g h : Grid} {v u : Value} {w : World} (h1 : Mt k g v w) (h2 : Mt m h u w) (e : cols g = h.length) (hk : k + m + 16 ≤ 17179869184) (hn : g.length = n) :
    Calls Tryz.prog 44 #[v, u] w fun e w' => (∃ a c, e = .returned (.tuple #[.agg #[.slice a n c], .int .i64 0]) ∧ Mt (k + m + 16) (timesG g h) (.agg #[.slice a n c]) w') ∧ Below w.heap.size w w' := by
  have s1 := h1.sz
  have s2 := h2.sz
  refine (timesM_c v u g h k m w h1.m h2.m h1.rc h2.rc h1.bd h2.bd (by omega) (by omega) (by omega) (by omega)).mono ?_
  rintro ee w' ⟨ho, hb⟩
  refine ⟨?_, hb⟩
  rcases ho with ⟨-, x, rfl, hx⟩ | ⟨no, -⟩
  · have hx := hx.rebase (Nat.zero_le _)
    obtain ⟨a, c, rfl⟩ := hx.lit
    rw [times_len, hn] at hx ⊢
    exact ⟨a, c, rfl, hx, by rw [times_cols (by omega)]; exact times_rct g h, ⟨by rw [times_len]; omega, by rw [times_cols (by omega)]; omega, by rw [times_len]; omega, by rw [times_cols (by omega)]; omega⟩, (show BdM (k + m + cols g) (timesG g h) from tab_bd fun i j _ _ => isum_bd (fun t => (h1.bd i t).mul (h2.bd t j)) _).mono (by omega)⟩
  · exact absurd ⟨e, by omega⟩ no
theorem Mt.plus {k n : Nat} {g h : Grid} {v u : Value} {w : World} (h1 : Mt k g v w) (h2 : Mt k h u w) (e : g.length = h.length) (e2 : cols g = cols h) (hk : k ≤ 17179869184) (hn : g.length = n) :
    Calls Tryz.prog 45 #[v, u] w fun e w' => (∃ a c, e = .returned (.tuple #[.agg #[.slice a n c], .int .i64 0]) ∧ Mt (k + 1) (plusG g h) (.agg #[.slice a n c]) w') ∧ Below w.heap.size w w' := by
  have s1 := h1.sz
  refine (plusM_c v u g h k w h1.m h2.m h1.rc h2.rc h1.bd h2.bd hk (by omega) (by omega)).mono ?_
  rintro ee w' ⟨ho, hb⟩
  refine ⟨?_, hb⟩
  rcases ho with ⟨-, x, rfl, hx⟩ | ⟨no, -⟩
  · have hx := hx.rebase (Nat.zero_le _)
    obtain ⟨a, c, rfl⟩ := hx.lit
    rw [plus_len, hn] at hx ⊢
    exact ⟨a, c, rfl, hx, by rw [plus_cols (by omega)]; exact tab_rect _ _ _, ⟨by rw [plus_len]; omega, by rw [plus_cols (by omega)]; omega, by rw [plus_len]; omega, by rw [plus_cols (by omega)]; omega⟩, tab_bd fun i j _ _ => (h1.bd i j).add (h2.bd i j)⟩
  · exact absurd ⟨e, e2⟩ no
theorem Mt.same {k m : Nat} {g h : Grid} {v u : Value} {w : World} (h1 : Mt k g v w) (h2 : Mt m h u w) (e : g = h) :
    Calls Tryz.prog 30 #[v, u] w fun e w' => e = .returned (.bool true) ∧ Below w.heap.size w w' := by
  have s1 := h1.sz
  have s2 := h2.sz
  subst e
  have h := sameM_c v u g g w h1.m h2.m (by omega) (fun i hi => by rw [h1.rc i hi]; omega) (fun i hi => by rw [h2.rc i hi]; omega)
  rw [show decide (g = g) = true by simp] at h
  exact h
theorem app_bd2 {g : Grid} {l : List Int} {k m : Nat} (rg : Rct g (cols g)) (hl : l.length = cols g) (h1 : BdM k g) (h2 : ∀ j, Bd m (l.getD j 0)) : ∀ j, Bd (k + m + cols g) ((applyG g l).getD j 0) := fun j => by
  by_cases hj : j < g.length
  · rw [app_at rg hl hj]
    exact isum_bd (fun t => (h1 j t).mul (h2 t)) _
  · rw [List.getD_eq_getElem?_getD, List.getElem?_eq_none (by rw [app_len]; omega)]; exact bd_zero
theorem Mt.apply {k m n : Nat} {g : Grid} {l : List Int} {v u : Value} {w : World} (h1 : Mt k g v w) (hu : PRow 0 w u l) (hl : l.length = cols g) (bl : ∀ j, Bd m (l.getD j 0)) (hk : k + m + 16 ≤ 17179869184) (hn : g.length = n) :
    Calls Tryz.prog 46 #[v, u] w fun e w' => (∃ a c, e = .returned (.tuple #[.slice a n c, .int .i64 0]) ∧ PRow 0 w' (.slice a n c) (applyG g l) ∧ (applyG g l).length = n ∧ ∀ j, Bd (k + m + 16) ((applyG g l).getD j 0)) ∧ Below w.heap.size w w' := by
  have s1 := h1.sz
  refine (applyM_c v u g l k m w h1.m hu h1.rc (by omega) (by omega) (by omega) h1.bd bl (by omega)).mono ?_
  rintro ee w' ⟨ho, hb⟩
  refine ⟨?_, hb⟩
  rcases ho with ⟨-, -, x, rfl, hx⟩ | ⟨no, -⟩
  · obtain ⟨a, c, rfl⟩ := hx.ex
    have hx2 : PRow 0 w' _ (applyG g l) := hx.row.rebase (Nat.zero_le _)
    rw [app_len, hn] at hx2 ⊢
    exact ⟨a, c, rfl, hx2, rfl, fun j => (app_bd2 h1.rc hl h1.bd bl j).mono (by omega)⟩
  · exact absurd ⟨by omega, hl⟩ no
end Go.Proofs.YthlphfjmdgcpdaaGreatDoor

/- matrix's laws: is, comes. -/
namespace Go.Proofs.YthlphfjmdgcpdaaGreatDoor
open Num
open Go.ChangeShapes Go.WideShapes Go.ChangeAt Go.RowKit
set_option linter.unusedVariables false
set_option linter.unusedSimpArgs false
attribute [local go_sem ↓] Go.wp_at_zero Go.wp_at_succ
/-- the reference's matrix -/
def RefM (w : World) (v : Value) (g : Grid) : Prop := IsL 33 (RRow 0) 0 w v g
theorem RefM.keep {w w' : World} {v : Value} {g : Grid} (h : RefM w v g) (k : Below w.heap.size w w') : RefM w' v g := IsL.keep prs_rrow h k
theorem RefM.nil (w : World) : RefM w (.slice none 0 0) [] := IsL.nil _ _ _ _
set_option maxRecDepth 100000 in
set_option maxHeartbeats 8000000 in
theorem mIs_c (vm vr : Value) (g : Grid) (k : Nat) (w : World) (hm : IsM 0 w vm g) (hr : RefM w vr g) (rg : Rct g (cols g)) (hn : g.length ≤ 65536) (hc : cols g ≤ 65536) (hb : BdM k g) (hk : k ≤ 1073741824) :
    Calls Tryz.prog 27 #[vm, vr] w fun e w' => e = .returned (.bool true) ∧ Below w.heap.size w w' := by
  have HM := Lib.hid hm
  have HR := Lib.hid hr
  have HRG := Lib.hid rg
  have HBD := Lib.hid hb
  obtain ⟨a, c, rfl, -⟩ := hm
  obtain ⟨ra, rc, rfl, -⟩ : ∃ a c, vr = .slice a g.length c ∧ True := by obtain ⟨a, c, e, _⟩ := (show IsL _ _ _ _ _ _ from hr).view; exact ⟨a, c, e, trivial⟩
  have ROC := Lib.hid (fun V => rowsM_c a g.length c V)
  have COC := Lib.hid (fun V (q : Below w.heap.size w V) => (show Calls Tryz.prog 53 #[.agg #[.slice a g.length c]] V fun e w' => e = .returned (.int .i64 (cols g : Nat)) ∧ Below V.heap.size V w' from by
    obtain ⟨a', c', e, hl⟩ := HM.out.keep q
    cases e
    exact colsM_c _ _ g V hl))
  have RCC := Lib.hid (fun V (q : Below w.heap.size w V) => rcols_c (.slice ra g.length rc) g V (HR.out.keep q))
  have RWC := Lib.hid (fun V i (q : Below w.heap.size w V) (hi : i < g.length) => rowM_c (.agg #[.slice a g.length c]) g i V (HM.out.keep q) hi hn (by rw [HRG.out i hi]; omega))
  clear hr rg hb
  obtain ⟨n, hnE⟩ : ∃ n, g.length = n := ⟨_, rfl⟩
  have HN := Lib.hid hnE
  rw [hnE] at ROC COC RCC RWC hn ⊢
  obtain ⟨m, hmE⟩ : ∃ m, cols g = m := ⟨_, rfl⟩
  rw [hmE] at COC RCC hc
  have HMC := Lib.hid hmE
  clear hnE hmE
  have hnn : ((n : Int) != (n : Int)) = false := by simp
  have hmm : ((m : Int) != (m : Int)) = false := by simp
  have hB := Below.refl w.heap.size w
  go_enter Tryz.func27, Tryz.ntmps27
  go_wp2_with fail
  (with_reducible refine (ROC.out _).mono ?_)
  rintro e w1 ⟨rfl, hb1⟩
  have m0 : w1.cell? ⟨w.heap.size, 0, none⟩ = some (.slice a n c) := bkc hb1
  have zm0 := cell_lt m0
  have hB : Below w.heap.size w w1 := bthen (by repeat (first | exact Below.refl _ _ | exact hB | refine Below.drew ?_ | refine below_drewN ?_ _ | refine bset ?_ (by simp <;> omega) _ | refine bal ?_ _)) hb1
  have hz : w.heap.size ≤ w1.heap.size := hB.size
  go_wp2_with fail
  (with_reducible refine (COC.out _ ?_).mono ?_); (repeat (first | exact Below.refl _ _ | exact hB | refine Below.drew ?_ | refine below_drewN ?_ _ | refine bset ?_ (by simp <;> omega) _ | refine bal ?_ _))
  rintro e w2 ⟨rfl, hb2⟩
  have m0 : w2.cell? ⟨w.heap.size, 0, none⟩ = some (.slice a n c) := bkc hb2
  have zm0 := cell_lt m0
  have hB : Below w.heap.size w w2 := bthen (by repeat (first | exact Below.refl _ _ | exact hB | refine Below.drew ?_ | refine below_drewN ?_ _ | refine bset ?_ (by simp <;> omega) _ | refine bal ?_ _)) hb2
  have hz : w.heap.size ≤ w2.heap.size := hB.size
  go_wp2_with fail
  (with_reducible refine (RCC.out _ ?_).mono ?_); (repeat (first | exact Below.refl _ _ | exact hB | refine Below.drew ?_ | refine below_drewN ?_ _ | refine bset ?_ (by simp <;> omega) _ | refine bal ?_ _))
  rintro e w3 ⟨rfl, hb3⟩
  have m0 : w3.cell? ⟨w.heap.size, 0, none⟩ = some (.slice a n c) := bkc hb3
  have zm0 := cell_lt m0
  have hB : Below w.heap.size w w3 := bthen (by repeat (first | exact Below.refl _ _ | exact hB | refine Below.drew ?_ | refine below_drewN ?_ _ | refine bset ?_ (by simp <;> omega) _ | refine bal ?_ _)) hb3
  have hz : w.heap.size ≤ w3.heap.size := hB.size
  clear ROC COC RCC hb1 hb2 hb3
  have hB3 := Below.refl w3.heap.size w3
  go_wp2
  go_loopw [22] (fun x wr => ∃ i : Nat, i ≤ n ∧ x = .int .i64 i ∧ Below w3.heap.size w3 wr) (fun x _ => n - (intOf x).toNat)
  case atStart => exact ⟨0, Nat.zero_le _, rfl, hB3⟩
  case round =>
    obtain ⟨i, hi, rfl, hBr⟩ := hrel
    have hBw := bthen hB hBr
    have m0r := bkeep hBr m0
    have zmr := cell_lt m0r
    by_cases hlt : i < n
    · have hltI : (i : Int) < (n : Int) := by omega
      have hig : i < g.length := by rw [HN.out]; exact hlt
      have hrw := fun V (q : Below wr.heap.size wr V) => RWC.out V i (bthen hBw q) hlt
      have hbr := Below.refl wr.heap.size wr
      go_wp2_with fail
      (with_reducible refine (hrw _ ?_).mono ?_); (repeat (first | exact Below.refl _ _ | exact hbr | refine Below.drew ?_ | refine below_drewN ?_ _ | refine bset ?_ (by simp <;> omega) _ | refine bal ?_ _))
      rintro e w4 ⟨⟨u4, rfl, hu4⟩, hb4⟩
      have hb4' : Below wr.heap.size wr w4 := bthen (by repeat (first | exact Below.refl _ _ | exact hbr | refine Below.drew ?_ | refine below_drewN ?_ _ | refine bset ?_ (by simp <;> omega) _ | refine bal ?_ _)) hb4
      have hBw4 := bthen hBw hb4'
      obtain ⟨c2, gb, go, xa, xc, e2, hu, hp⟩ := IsL.rrow (HR.out.keep hBw4) hig
      obtain ⟨rfl, -, rfl⟩ := Value.slice.inj e2
      have hrl := HRG.out i hig
      rw [HMC.out] at hrl
      have hbj : ∀ t, Bd k ((g.getD i []).getD t 0) := fun t => HBD.out i t
      obtain ⟨row, hrow⟩ : ∃ r, g.getD i [] = r := ⟨_, rfl⟩
      rw [hrow] at hu hp hrl hbj hu4
      have lc := fun V (q : Below w4.heap.size w4 V) => mLine_c u4 (.slice xa row.length xc) row k V ((hu4.row.rebase (Nat.zero_le _)).keep lims_int q) (hp.keep lims_ref q) hbj hk (by omega)
      have LC := Lib.hid lc
      obtain ⟨ua, uc, rfl⟩ := hu4.ex
      have zu := cell_lt hu
      have hbr4 := Below.refl w4.heap.size w4
      have hBr4 := bthen hBr hb4'
      clear lc hp hu4 e2 hrow hrl hbj hb4 hrw
      go_wp2_with fail
      (with_reducible refine (LC.out _ ?_).mono ?_); (repeat (first | exact Below.refl _ _ | exact hbr4 | refine Below.drew ?_ | refine below_drewN ?_ _ | refine bset ?_ (by simp <;> omega) _ | refine bal ?_ _))
      rintro e w5 ⟨rfl, hb5⟩
      have hBr5 := bthen hBr4 (bthen (show Below w4.heap.size w4 _ by repeat (first | exact Below.refl _ _ | exact hbr4 | refine Below.drew ?_ | refine below_drewN ?_ _ | refine bset ?_ (by simp <;> omega) _ | refine bal ?_ _)) hb5)
      clear LC hu zu
      go_wp2
      exact ⟨⟨i + 1, hlt, by go_num, hBr5⟩, meas hlt (by go_num) rfl⟩
    · obtain rfl : i = n := by omega
      have hltI : ¬ (i : Int) < (i : Int) := by omega
      go_wp2
      go_ret
      exact ⟨rfl, hBw⟩
set_option maxRecDepth 100000 in
set_option maxHeartbeats 4000000 in
/-- that came -/
theorem mComes_yes (vm vr : Value) (g : Grid) (k : Nat) (w : World) (hm : IsM 0 w vm g) (hr : RefM w vr g) (rg : Rct g (cols g)) (hn : g.length ≤ 65536) (hc : cols g ≤ 65536) (hb : BdM k g) (hk : k ≤ 1073741824) :
    Calls Tryz.prog 24 #[vm, .int .i64 0, vr, .int .i64 0] w fun e w' => e = .returned (.bool true) ∧ Below w.heap.size w w' := by
  have IC := Lib.hid (fun V (q : Below w.heap.size w V) => mIs_c vm vr g k V (hm.keep q) (hr.keep q) rg hn hc hb hk)
  obtain ⟨a, c, rfl, -⟩ := hm
  obtain ⟨ra, rc, rfl, -⟩ : ∃ a c, vr = .slice a g.length c ∧ True := by obtain ⟨a, c, e, _⟩ := (show IsL _ _ _ _ _ _ from hr).view; exact ⟨a, c, e, trivial⟩
  clear hr rg hb
  have hB := Below.refl w.heap.size w
  go_enter Tryz.func24, Tryz.ntmps24
  go_wp2_with fail
  (with_reducible refine (IC.out _ ?_).mono ?_); (repeat (first | exact Below.refl _ _ | exact hB | refine Below.drew ?_ | refine below_drewN ?_ _ | refine bset ?_ (by simp <;> omega) _ | refine bal ?_ _))
  rintro e w1 ⟨rfl, hb1⟩
  have hB1 : Below w.heap.size w w1 := bthen (by repeat (first | exact Below.refl _ _ | exact hB | refine Below.drew ?_ | refine below_drewN ?_ _ | refine bset ?_ (by simp <;> omega) _ | refine bal ?_ _)) hb1
  clear IC
  go_wp2
  go_ret
  exact ⟨rfl, hB1⟩
set_option maxRecDepth 100000 in
set_option maxHeartbeats 4000000 in
/-- just that error, and none -/
theorem mComes_no (no : Int) (vr : Value) (w : World) (h0 : no ≠ 0) (hvr : ∃ a n c, vr = .slice a n c) :
    Calls Tryz.prog 24 #[.agg #[.slice none 0 0], .int .i64 no, vr, .int .i64 no] w fun e w' => e = .returned (.bool true) ∧ Below w.heap.size w w' := by
  have IC := Lib.hid (fun V => mIs_c (.agg #[.slice none 0 0]) (.slice none 0 0) [] 1 V (IsM.nil _ _) (RefM.nil _) (fun i hi => by simp at hi) (by decide) (by decide) (bdM_of (by simp)) (by decide))
  obtain ⟨a, n, c, rfl⟩ := hvr
  have hne : (no != 0) = true := by simpa using h0
  have hB := Below.refl w.heap.size w
  clear h0
  go_enter Tryz.func24, Tryz.ntmps24
  go_wp2_with fail
  (with_reducible refine (IC.out _).mono ?_)
  rintro e w1 ⟨rfl, hb1⟩
  have hB1 : Below w.heap.size w w1 := bthen (by repeat (first | exact Below.refl _ _ | exact hB | refine Below.drew ?_ | refine below_drewN ?_ _ | refine bset ?_ (by simp <;> omega) _ | refine bal ?_ _)) hb1
  clear IC
  go_wp2
  go_ret
  exact ⟨rfl, hB1⟩
end Go.Proofs.YthlphfjmdgcpdaaGreatDoor

/- the reference's identity. -/
namespace Go.Proofs.YthlphfjmdgcpdaaGreatDoor
open Num
open Go.ChangeShapes Go.WideShapes Go.ChangeAt Go.RowKit
set_option linter.unusedVariables false
set_option linter.unusedSimpArgs false
attribute [local go_sem ↓] Go.wp_at_zero Go.wp_at_succ
theorem infoRRow5 : (Tryz.prog.info? 33).map (fun i => (i.zero, i.size, i.bytes)) = some (some (.slice none 0 0), 1, 24) := by kernel_rfl
theorem elMat : Elt Tryz.prog 29 33 1 24 := Elt.mk' Tryz.underlying29 infoRRow5 rfl (by decide) (by decide)
end Go.Proofs.YthlphfjmdgcpdaaGreatDoor

/- matrix's laws: the numbers that come in, as the reference's; Fits; both. -/
namespace Go.Proofs.YthlphfjmdgcpdaaGreatDoor
open Num
open Go.ChangeShapes Go.WideShapes Go.ChangeAt Go.RowKit
set_option linter.unusedVariables false
set_option linter.unusedSimpArgs false
attribute [local go_sem ↓] Go.wp_at_zero Go.wp_at_succ
theorem elRw5 : Elt Tryz.prog 33 43 2 32 := Elt.mk' Tryz.underlying33 infoRef rfl (by decide) (by decide)
set_option maxRecDepth 100000 in
set_option maxHeartbeats 4000000 in
theorem ref5_c (v : Value) (l : List Int) (w : World) (hv : RowI w v l) (hl : l.length ≤ 1099511627000) :
    Calls Tryz.prog 40 #[v] w fun e w' => (∃ v', e = .returned v' ∧ RowO IsRef 43 w.heap.size w' v' l) ∧ Below w.heap.size w w' := by
  obtain ⟨ra, rc, rfl, hr⟩ := hv
  have HR := Lib.hid hr
  clear hr
  have hB := Below.refl w.heap.size w
  go_enter Tryz.func40, Tryz.ntmps40
  go_wp2
  go_loopw [3, 8] (fun v x wr => ∃ j : Nat, j ≤ l.length ∧ x = .int .i64 j ∧ Hid (OwnF IsRef 43 w wr v j (fun i => l.getD i 0))) (fun _ x _ => l.length - (intOf x).toNat)
  case atStart => exact ⟨0, Nat.zero_le _, rfl, Lib.hid (OwnF.nil _ _ _ hB)⟩
  case round =>
    obtain ⟨j, hj, rfl, hF⟩ := hrel
    obtain ⟨fa, fc, hfv⟩ : ∃ a c, _ = Value.slice a j c := by obtain ⟨a, c, h, _⟩ := hF.out.view; exact ⟨a, c, h⟩
    subst hfv
    by_cases hlt2 : j < l.length
    · have hltJ : (j : Int) < (l.length : Int) := by omega
      obtain ⟨rb, ro, rfl, hc, hI⟩ := HR.out j hlt2
      have hc2 := bkeep hF.out.bel hc
      have zc := cell_lt hc2
      have oc := fun W => rof_c (l.getD j 0) W hI.1 hI.2
      have HSN := Lib.hid (snoc_fun l j hlt2)
      obtain ⟨z, hz⟩ : ∃ z, l.getD j 0 = z := ⟨_, rfl⟩
      rw [hz] at hc2 oc HSN
      clear hc hI hz
      go_wp2_with fail
      refine (oc _).mono ?_
      rintro e w5 ⟨⟨v5, rfl, hi5⟩, hb5⟩
      have HF5 := Lib.hid (hF.out.below lims_ref hb5)
      have HI5 := Lib.hid hi5
      obtain ⟨n5, a5, c5, l5, rfl, -⟩ := hi5
      unfold iv at *
      clear oc
      go_wp2_with (at_builtin; refine app_num elRw5 (by decide) lims_ref (by rfl) (by rfl) HF5.out HI5.out (by rfl) (by rfl) (by omega) ?_)
      intro v' w8 hF8 _ _
      have HF8 := Lib.hid (hF8.congr' HSN.out)
      clear hF8
      go_wp2
      exact ⟨⟨j + 1, hlt2, by go_num, HF8⟩, meas hlt2 (by go_num) rfl⟩
    · obtain rfl : j = l.length := by omega
      have HRO := Lib.hid hF.out.rowO
      have hBr := hF.out.bel
      go_wp2
      go_ret
      exact ⟨⟨_, rfl, HRO.out⟩, hBr⟩
set_option maxRecDepth 100000 in
set_option maxHeartbeats 4000000 in
theorem grid5_c (v : Value) (g : Grid) (w : World) (hv : GridI w v g) (hg : g.length ≤ 1048576) (hl : ∀ k, k < g.length → (g.getD k []).length ≤ 1048576) :
    Calls Tryz.prog 21 #[v] w fun e w' => (∃ u, e = .returned u ∧ OwnL 33 (RowO IsRef 43 w.heap.size) w w' u g) ∧ Below w.heap.size w w' := by
  obtain ⟨ga, gc, rfl, hv⟩ := hv
  have HV := Lib.hid hv
  have HL := Lib.hid hl
  clear hv hl
  have hB := Below.refl w.heap.size w
  go_enter Tryz.func21, Tryz.ntmps21
  go_wp2
  go_loopw [3, 8] (fun v x wr => ∃ k : Nat, k ≤ g.length ∧ x = .int .i64 k ∧ Hid (OwnL 33 (RowO IsRef 43 w.heap.size) w wr v (g.take k))) (fun _ x _ => g.length - (intOf x).toNat)
  case atStart => exact ⟨0, Nat.zero_le _, rfl, Lib.hid (OwnL.nil _ _ hB)⟩
  case round =>
    obtain ⟨k, hk, rfl, hO⟩ := hrel
    have hBr := hO.out.bel
    have hlen : (g.take k).length = k := by rw [List.length_take]; omega
    have HLEN := Lib.hid hlen
    obtain ⟨va, vc, hvv⟩ := hO.out.ex
    rw [hlen] at hvv
    subst hvv
    clear hlen
    by_cases hlt : k < g.length
    · have hltI : (k : Int) < (g.length : Int) := by omega
      obtain ⟨gb, go, u, rfl, hu, hrow⟩ := HV.out k hlt
      have hr2 := hrow.keep hBr
      obtain ⟨ra, rc, rfl, -⟩ := hrow
      have hl3 := HL.out k hlt
      have HT := Lib.hid (take_getD [] hlt)
      have hu2 := bkeep hBr hu
      obtain ⟨l, hle⟩ : ∃ l, g.getD k [] = l := ⟨_, rfl⟩
      rw [hle] at hr2 hu2 hl3 HT
      have zu := cell_lt hu2
      have lc := fun W (q : Below wr.heap.size wr W) => ref5_c (.slice ra l.length rc) l W (hr2.keep q) (by omega)
      have LC := Lib.hid lc
      have hLL : ((g.take k).length + 1) * 24 ≤ 140737488355328 := by rw [HLEN.out]; omega
      have hLM : (g.take k).length + 1 ≤ maxLen := by rw [HLEN.out]; unfold maxLen; omega
      have hBw := Below.refl wr.heap.size wr
      clear hu hr2 hle lc
      go_wp2_with fail
      (with_reducible refine (LC.out _ ?_).mono ?_); (repeat (first | exact Below.refl _ _ | exact hBw | refine Below.drew ?_ | refine below_drewN ?_ _ | refine bset ?_ (by simp <;> omega) _ | refine bal ?_ _))
      rintro e w5 ⟨⟨v5, rfl, hr5⟩, hb5⟩
      have hb5' : Below wr.heap.size wr w5 := bthen (by repeat (first | exact Below.refl _ _ | exact hBw | refine Below.drew ?_ | refine below_drewN ?_ _ | refine bset ?_ (by simp <;> omega) _ | refine bal ?_ _)) hb5
      have HR5 := Lib.hid (show RowO IsRef 43 w.heap.size w5 v5 l from hr5.rebase (show w.heap.size ≤ _ from Nat.le_trans hBr.size (show Below wr.heap.size wr _ by repeat (first | exact Below.refl _ _ | exact hBw | refine Below.drew ?_ | refine below_drewN ?_ _ | refine bset ?_ (by simp <;> omega) _ | refine bal ?_ _)).size))
      have HO5 := Lib.hid (hO.out.below (prs_rowO lims_ref _ _) hb5')
      obtain ⟨a5, c5, rfl⟩ := hr5.ex
      clear LC hr5 hb5 hO
      go_wp2_with (at_builtin; refine appL elMat (prs_rowO lims_ref _ _) (by decide) (by rfl) (by rfl) (HO5.out.below (prs_rowO lims_ref _ _) (bal (Below.refl _ _) _)) (HR5.out.keep lims_ref (bal (Below.refl _ _) _)) (by rfl) (by rfl) (cell_new (by simp) rfl) hLL hLM ?_)
      intro v' w8 hO8 hk8
      have HO8 := Lib.hid hO8
      rw [← HT.out] at HO8
      clear hO8 hk8
      go_wp2
      exact ⟨⟨k + 1, hlt, by go_num, HO8⟩, meas hlt (by go_num) rfl⟩
    · obtain rfl : k = g.length := by omega
      rw [List.take_length] at hO
      go_wp2
      go_ret
      exact ⟨⟨_, rfl, hO.out⟩, hBr⟩
end Go.Proofs.YthlphfjmdgcpdaaGreatDoor

/- the reference's Fits; both. -/
namespace Go.Proofs.YthlphfjmdgcpdaaGreatDoor
open Num
open Go.ChangeShapes Go.WideShapes Go.ChangeAt Go.RowKit
set_option linter.unusedVariables false
set_option linter.unusedSimpArgs false
attribute [local go_sem ↓] Go.wp_at_zero Go.wp_at_succ
set_option maxRecDepth 100000 in
set_option maxHeartbeats 8000000 in
theorem rfits_c (v : Value) (g : Grid) (w : World) (hv : RefM w v g) (hg : g.length ≤ 1099511627775) :
    Calls Tryz.prog 22 #[v] w fun e w' => e = .returned (.int .i64 (fitsE g)) ∧ Below w.heap.size w w' := by
  have HV := Lib.hid (show IsL 33 (RRow 0) 0 w v g from hv)
  obtain ⟨ga, gc, rfl, -⟩ : ∃ a c, v = .slice a g.length c ∧ True := by obtain ⟨a, c, e, _⟩ := HV.out.view; exact ⟨a, c, e, trivial⟩
  clear hv
  have hB := Below.refl w.heap.size w
  by_cases h0 : g.length = 0
  · have hE : fitsE g = 2 := by unfold fitsE; rw [if_pos (.inl h0)]
    rw [hE, h0]
    clear hE h0 HV hg
    go_enter Tryz.func22, Tryz.ntmps22
    go_wp2
    go_ret
    exact ⟨rfl, by repeat (first | exact Below.refl _ _ | exact hB | refine Below.drew ?_ | refine below_drewN ?_ _ | refine bset ?_ (by simp <;> omega) _ | refine bal ?_ _)⟩
  · obtain ⟨c', gb, go, ra, rc, e, hu, -⟩ := IsL.rrow HV.out (show 0 < g.length by omega)
    obtain ⟨rfl, -, rfl⟩ := Value.slice.inj e
    rw [Nat.add_zero] at hu
    have zu := cell_lt hu
    have HM := Lib.hid (show cols g = (g.getD 0 []).length from rfl)
    obtain ⟨m, hm⟩ : ∃ m, (g.getD 0 []).length = m := ⟨_, rfl⟩
    rw [hm] at hu HM
    obtain ⟨n, hn⟩ : ∃ n, g.length = n := ⟨_, rfl⟩
    have HN := Lib.hid hn
    rw [hn] at h0 hg ⊢
    have hn0 : ((n : Int) == 0) = false := by simp; omega
    have hn1 : (0 : Int) < (n : Int) := by omega
    obtain ⟨F, hF⟩ : ∃ F, fitsE g = F := ⟨_, rfl⟩
    have HF := Lib.hid hF
    rw [hF]
    clear e hm hn hF
    by_cases h1 : m = 0
    · have hm0 : ((m : Int) == 0) = true := by simp [h1]
      have hE : F = 2 := by rw [← HF.out]; unfold fitsE; rw [if_pos (.inr (by rw [HM.out]; exact h1))]
      rw [hE]
      clear h1 hE h0
      go_enter Tryz.func22, Tryz.ntmps22
      go_wp2
      go_ret
      exact ⟨rfl, by repeat (first | exact Below.refl _ _ | exact hB | refine Below.drew ?_ | refine below_drewN ?_ _ | refine bset ?_ (by simp <;> omega) _ | refine bal ?_ _)⟩
    · have hm0 : ((m : Int) == 0) = false := by simp; omega
      have hne : ¬ (g.length = 0 ∨ cols g = 0) := by rw [HM.out, HN.out]; omega
      by_cases h2 : 16 < n
      · have hb1 : (16 : Int) < (n : Int) := by omega
        have hE : F = 3 := by rw [← HF.out]; unfold fitsE; rw [if_neg hne, if_pos (.inl (by rw [HN.out]; exact h2))]
        rw [hE]
        clear h1 hE h0 h2 hne
        go_enter Tryz.func22, Tryz.ntmps22
        go_wp2
        go_ret
        exact ⟨rfl, by repeat (first | exact Below.refl _ _ | exact hB | refine Below.drew ?_ | refine below_drewN ?_ _ | refine bset ?_ (by simp <;> omega) _ | refine bal ?_ _)⟩
      · have hb1 : ¬ (16 : Int) < (n : Int) := by omega
        by_cases h3 : 16 < m
        · have hb2 : (16 : Int) < (m : Int) := by omega
          have hE : F = 3 := by rw [← HF.out]; unfold fitsE; rw [if_neg hne, if_pos (.inr (by rw [HM.out]; exact h3))]
          rw [hE]
          clear h1 hE h0 h2 h3 hne
          go_enter Tryz.func22, Tryz.ntmps22
          go_wp2
          go_ret
          exact ⟨rfl, by repeat (first | exact Below.refl _ _ | exact hB | refine Below.drew ?_ | refine below_drewN ?_ _ | refine bset ?_ (by simp <;> omega) _ | refine bal ?_ _)⟩
        · have hb2 : ¬ (16 : Int) < (m : Int) := by omega
          have HE := Lib.hid (show F = if ∀ i, i < g.length → (g.getD i []).length = m then 0 else 5 from by
            rw [← HF.out]; unfold fitsE; rw [if_neg hne, if_neg (by rw [HM.out, HN.out]; omega), HM.out])
          have hn16 : n ≤ 16 := by omega
          clear hne h0 h1 h2 h3 HF
          go_enter Tryz.func22, Tryz.ntmps22
          go_wp2
          go_loopw [3] (fun x wr => ∃ k : Nat, k ≤ n ∧ x = .int .i64 k ∧ Below w.heap.size w wr ∧ Hid (∀ j, j < k → (g.getD j []).length = m)) (fun x _ => n - (intOf x).toNat)
          case atStart => exact ⟨0, Nat.zero_le _, rfl, hB, Lib.hid (fun j hj => by omega)⟩
          case round =>
            obtain ⟨k, hk, rfl, hBr, hall⟩ := hrel
            by_cases hlt : k < n
            · have hltI : (k : Int) < (n : Int) := by omega
              obtain ⟨c2, gb2, go2, ra2, rc2, e2, hu2, -⟩ := IsL.rrow HV.out (i := k) (by rw [HN.out]; exact hlt)
              obtain ⟨⟨rfl, rfl⟩, -, rfl⟩ : (gb = gb2 ∧ go = go2) ∧ True ∧ gc = c2 := by
                have h := Value.slice.inj e2
                simp at h
                exact ⟨h.1, trivial, h.2⟩
              have hu3 := bkeep hBr hu2
              have hu0 := bkeep hBr hu
              have zu3 := cell_lt hu3
              have zu0 := cell_lt hu0
              obtain ⟨lk, hlk⟩ : ∃ n, (g.getD k []).length = n := ⟨_, rfl⟩
              rw [hlk] at hu3
              have HLK := Lib.hid hlk
              clear e2 hu2 hlk
              by_cases e1 : lk = m
              · subst e1
                have hq1 : ((lk : Int) != (lk : Int)) = false := by simp
                have HAL := Lib.hid (show ∀ j, j < k + 1 → (g.getD j []).length = lk from fun j hj => by
                  by_cases e : j = k
                  · subst e; exact HLK.out
                  · exact hall.out j (by omega))
                go_wp2
                go_quiet (fail)
                go_wp2
                exact ⟨⟨k + 1, hlt, by go_num, by repeat (first | exact Below.refl _ _ | exact hBr | refine Below.drew ?_ | refine below_drewN ?_ _ | refine bset ?_ (by simp <;> omega) _ | refine bal ?_ _), HAL⟩, meas hlt (by go_num) rfl⟩
              · have hq1 : ((lk : Int) != (m : Int)) = true := by simp; omega
                have hE := Lib.hid (show F = 5 from by
                  rw [HE.out, if_neg fun h => e1 (by rw [← HLK.out]; exact h k (by rw [HN.out]; exact hlt))])
                clear e1
                go_wp2
                go_quiet (fail)
                go_wp2
                go_ret
                exact ⟨by rw [hE.out]; rfl, by repeat (first | exact Below.refl _ _ | exact hBr | refine Below.drew ?_ | refine below_drewN ?_ _ | refine bset ?_ (by simp <;> omega) _ | refine bal ?_ _)⟩
            · obtain rfl : k = n := by omega
              have hE := Lib.hid (show F = 0 from by rw [HE.out, if_pos fun i hi => hall.out i (by rw [← HN.out]; exact hi)])
              go_wp2
              go_ret
              exact ⟨by rw [hE.out]; rfl, hBr⟩
end Go.Proofs.YthlphfjmdgcpdaaGreatDoor

/- how long the texts of small matrices may be, plain. -/
namespace Go.Proofs.YthlphfjmdgcpdaaGreatDoor
open Num
set_option linter.unusedVariables false
set_option linter.unusedSimpArgs false
theorem join_le {B : Nat} (s : UInt8) : ∀ (L : List (List UInt8)), (∀ x ∈ L, x.length ≤ B) → (Lib.join L [s]).length ≤ L.length * (B + 1)
  | [], _ => by simp [Lib.join]
  | [y], h => by
    have := h y (by simp)
    have e : Lib.join [y] [s] = y := by simp [Lib.join]
    rw [e]
    simp
    omega
  | y :: z :: L, h => by
    have h1 := h y (by simp)
    have h2 := join_le s (z :: L) fun x hx => h x (List.mem_cons_of_mem _ hx)
    have e : Lib.join (y :: z :: L) [s] = y ++ [s] ++ Lib.join (z :: L) [s] := by simp [Lib.join]
    rw [e, List.length_append, List.length_append]
    simp only [List.length_cons, List.length_nil] at h2 ⊢
    rw [Nat.succ_mul]
    omega
theorem natTxt_len {n k : Nat} (h : n < 2 ^ k) : (natTxt n).length ≤ k + 1 := by
  unfold natTxt
  split
  · simp
  · have := lowD_len k n h
    unfold asc
    simp
    omega
theorem intTxt_len {z : Int} {k : Nat} (h : Bd k z) : (intTxt z).length ≤ k + 2 := by
  have := natTxt_len (n := z.natAbs) (k := k) h
  unfold intTxt
  rw [List.length_append]
  split <;> simp <;> omega
theorem brTxt_len (L : List (List UInt8)) : (brTxt L).length = (Lib.join L [32]).length + 2 := by simp [brTxt]
theorem mem_row {g : Grid} {k i : Nat} (hb : BdM k g) : ∀ x ∈ (g.getD i []).map intTxt, x.length ≤ k + 2 := fun x hx => by
  obtain ⟨z, hz, rfl⟩ := List.mem_map.1 hx
  obtain ⟨j, hj, rfl⟩ := List.mem_iff_getElem.1 hz
  refine intTxt_len ?_
  have := hb i j
  unfold gat at this
  rwa [List.getD_eq_getElem?_getD (l := g.getD i []), List.getElem?_eq_getElem hj] at this
/-- the texts of a matrix of sixteen rows and columns are short -/
theorem Mt.txt {k : Nat} {g : Grid} {v : Value} {w : World} (h : Mt k g v w) (hk : k ≤ 1000000) : (∀ i, i < g.length → (Lib.join ((g.getD i []).map intTxt) [32]).length ≤ 16 * 1000003) ∧ (Lib.join (g.map rowTxt) [32]).length ≤ 140737488355328 := by
  have s := h.sz
  have h1 : ∀ i, i < g.length → (Lib.join ((g.getD i []).map intTxt) [32]).length ≤ 16 * 1000003 := fun i hi => by
    refine Nat.le_trans (join_le (B := k + 2) 32 _ (mem_row h.bd)) ?_
    rw [List.length_map, h.rc i hi]
    exact Nat.mul_le_mul s.2.2.2 (by omega)
  refine ⟨h1, ?_⟩
  have h2 : ∀ x ∈ g.map rowTxt, x.length ≤ 16 * 1000003 + 2 := fun x hx => by
    obtain ⟨l, hl, rfl⟩ := List.mem_map.1 hx
    obtain ⟨i, hi, rfl⟩ := List.mem_iff_getElem.1 hl
    have := h1 i hi
    unfold rowTxt
    rw [brTxt_len]
    have e : g[i] = g.getD i [] := by simp [hi]
    rw [e]
    omega
  refine Nat.le_trans (join_le 32 _ h2) ?_
  rw [List.length_map]
  exact Nat.le_trans (Nat.mul_le_mul_right _ s.2.2.1) (by decide)
open Go.ChangeShapes Go.WideShapes Go.ChangeAt Go.RowKit
theorem Mt.lens {k : Nat} {g : Grid} {v : Value} {w : World} (h : Mt k g v w) : g.length ≤ 1099511627775 ∧ ∀ i, i < g.length → (g.getD i []).length ≤ 1099511627775 := by
  have s := h.sz
  exact ⟨by omega, fun i hi => by rw [h.rc i hi]; omega⟩
theorem Mt.mtxt {g : Grid} {v : Value} {w : World} (h : Mt 64 g v w) : Calls Tryz.prog 28 #[v] w fun e w' => e = .returned (.string ⟨(matTxt g).toArray⟩) ∧ Below w.heap.size w w' :=
  matText_c v g 64 w h.m h.lens.1 h.lens.2 h.bd (by decide) (fun i hi => Nat.le_trans ((h.txt (by decide)).1 i hi) (by decide)) (h.txt (by decide)).2
theorem Mt.rtxt {g : Grid} {v u : Value} {w w0 : World} (h : Mt 64 g v w0) (hu : RefM w u g) : Calls Tryz.prog 29 #[u] w fun e w' => e = .returned (.string ⟨(matTxt g).toArray⟩) ∧ Below w.heap.size w w' :=
  rmatText_c u g 64 w hu h.lens.1 h.lens.2 h.bd (by decide) (fun i hi => Nat.le_trans ((h.txt (by decide)).1 i hi) (by decide)) (h.txt (by decide)).2
theorem Mt.mis {g : Grid} {v u : Value} {w : World} (h : Mt 64 g v w) (hu : RefM w u g) : Calls Tryz.prog 27 #[v, u] w fun e w' => e = .returned (.bool true) ∧ Below w.heap.size w w' :=
  mIs_c v u g 64 w h.m hu h.rc (by have := h.sz; omega) (by have := h.sz; omega) h.bd (by decide)
end Go.Proofs.YthlphfjmdgcpdaaGreatDoor

