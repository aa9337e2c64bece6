/- Texts of this seat, laid together: MwI, MwS, MwW, MwX, MwY, MiA. Each opens with its own remark, which says what it proves, and under which conditions. -/
import Derived.Test.YthaohpfbengabaaGreatDoorV23
import Derived.Test.YthaohpfbengabaaGreatDoorV24
import Derived.Test.YthaohpfbengabaaGreatDoorV19
import Derived.Test.YthaohpfbengabaaGreatDoorV21
import Derived.Test.YthaohpfbengabaaGreatDoorV07
import Derived.Deep.DeepCutAuto
import Derived.Test.YthaohpfbengabaaGreatDoorV20
import Derived.BigQuiet
set_option linter.unusedVariables false
set_option linter.unusedSimpArgs false
/- matrix: Same. -/
namespace Go.Proofs.YthaohpfbengabaaGreatDoor
open Num
open Go.ChangeShapes Go.WideShapes Go.ChangeAt Go.RowKit
set_option linter.unusedVariables false
set_option linter.unusedSimpArgs false
attribute [local go_sem ↓] Go.wp_at_zero Go.wp_at_succ
set_option maxRecDepth 100000 in
set_option maxHeartbeats 8000000 in
theorem eqFunc_c (va vb : Value) (g h : Grid) (w : World) (ha : IsL 59 (PRow 0) 0 w va g) (hb : IsL 59 (PRow 0) 0 w vb h) (hgl : g.length ≤ 65536) (hg : ∀ i, i < g.length → (g.getD i []).length ≤ 1099511627775) (hh : ∀ i, i < h.length → (h.getD i []).length ≤ 1099511627775) :
    Calls Tryz.prog 87 #[va, vb, .func (.func 88) #[] #[]] w fun e w' => e = .returned (.bool (decide (g = h))) ∧ Below w.heap.size w w' := by
  have HA := Lib.hid ha
  have HBB := Lib.hid hb
  have HG := Lib.hid (And.intro hg hh)
  obtain ⟨aa, ca, rfl, -⟩ : ∃ a c, va = .slice a g.length c ∧ True := by obtain ⟨a, c, e, _⟩ := ha.view; exact ⟨a, c, e, trivial⟩
  obtain ⟨ab, cb, rfl, -⟩ : ∃ a c, vb = .slice a h.length c ∧ True := by obtain ⟨a, c, e, _⟩ := hb.view; exact ⟨a, c, e, trivial⟩
  clear ha hb hg hh
  obtain ⟨q, hq⟩ : ∃ q, decide (g = h) = q := ⟨_, rfl⟩
  have HQ := Lib.hid hq
  rw [hq]
  clear hq
  have hB := Below.refl w.heap.size w
  by_cases hl : g.length = h.length
  · obtain ⟨n, hn⟩ : ∃ n, g.length = n := ⟨_, rfl⟩
    have hn2 : h.length = n := by rw [← hl]; exact hn
    have HN := Lib.hid (And.intro hn hn2)
    rw [hn] at hgl ⊢
    rw [hn2]
    clear hl hn hn2
    have hnn : ((n : Int) != (n : Int)) = false := by simp
    go_enter Tryz.func87, Tryz.ntmps87
    go_wp2
    go_loopw [17] (fun x wr => ∃ j : Nat, j ≤ n ∧ x = .int .i64 j ∧ Below w.heap.size w wr ∧ Hid (∀ t, t < j → g.getD t [] = h.getD t [])) (fun x _ => n - (intOf x).toNat)
    case atStart => exact ⟨0, Nat.zero_le _, rfl, hB, Lib.hid (fun t ht => by omega)⟩
    case round =>
      obtain ⟨j, hj, rfl, hBr, hE⟩ := hrel
      by_cases hlt : j < n
      · have hltI : (j : Int) < (n : Int) := by omega
        obtain ⟨c1, gb1, go1, ra1, rc1, e1, hu1, hp1⟩ := (HA.out.keep (prs_prow 0) hBr).row (i := j) (by rw [HN.out.1]; exact hlt)
        obtain ⟨rfl, -, rfl⟩ := Value.slice.inj e1
        obtain ⟨c2, gb2, go2, ra2, rc2, e2, hu2, hp2⟩ := (HBB.out.keep (prs_prow 0) hBr).row (i := j) (by rw [HN.out.2]; exact hlt)
        obtain ⟨rfl, -, rfl⟩ := Value.slice.inj e2
        have b1 := HG.out.1 j (by rw [HN.out.1]; exact hlt)
        have b2 := HG.out.2 j (by rw [HN.out.2]; exact hlt)
        obtain ⟨l1, hl1⟩ : ∃ l, g.getD j [] = l := ⟨_, rfl⟩
        obtain ⟨l2, hl2⟩ : ∃ l, h.getD j [] = l := ⟨_, rfl⟩
        rw [hl1] at hu1 hp1 b1
        rw [hl2] at hu2 hp2 b2
        have HL := Lib.hid (And.intro hl1 hl2)
        have KC := Lib.hid (fun W (q : Below wr.heap.size wr W) => rowSame_c (.slice ra1 l1.length rc1) (.slice ra2 l2.length rc2) l1 l2 W (hp1.keep lims_int q) (hp2.keep lims_int q) b1 b2)
        have z1 := cell_lt hu1
        have z2 := cell_lt hu2
        have hBw := Below.refl wr.heap.size wr
        clear e1 e2 hp1 hp2 b1 b2 hl1 hl2
        obtain ⟨p, hp⟩ : ∃ p, decide (l1 = l2) = p := ⟨_, rfl⟩
        have HP := Lib.hid hp
        rw [hp] at KC
        clear hp
        go_wp2_with fail
        (with_reducible refine (KC.out _ ?_).mono ?_); (repeat (first | exact Below.refl _ _ | exact hBw | refine Below.drew ?_ | refine below_drewN ?_ _ | refine bset ?_ (by simp <;> omega) _ | refine bal ?_ _))
        rintro e w5 ⟨rfl, hb5⟩
        have hB5 := bthen hBr (bthen (show Below wr.heap.size wr _ by repeat (first | exact Below.refl _ _ | exact hBw | refine Below.drew ?_ | refine below_drewN ?_ _ | refine bset ?_ (by simp <;> omega) _ | refine bal ?_ _)) hb5)
        clear KC hu1 hu2
        cases p with
        | true =>
          have HE2 := Lib.hid (show ∀ t, t < j + 1 → g.getD t [] = h.getD t [] from fun t ht => by
            by_cases e : t = j
            · subst e; rw [HL.out.1, HL.out.2]; exact of_decide_eq_true HP.out
            · exact hE.out t (by omega))
          go_wp2
          exact ⟨⟨j + 1, hlt, by go_num, hB5, HE2⟩, meas hlt (by go_num) rfl⟩
        | false =>
          have HNE := Lib.hid (show q = false from by
            rw [← HQ.out]
            exact decide_eq_false fun e => (of_decide_eq_false HP.out) (by rw [← HL.out.1, ← HL.out.2, e]))
          go_wp2
          go_ret
          exact ⟨by rw [HNE.out]; rfl, hB5⟩
      · obtain rfl : j = n := by omega
        have HEQ := Lib.hid (show q = true from by
          rw [← HQ.out]
          exact decide_eq_true (list_ext (d := []) (by rw [HN.out.1, HN.out.2]) (fun t ht => hE.out t (by rw [← HN.out.1]; exact ht))))
        go_wp2
        go_ret
        exact ⟨by rw [HEQ.out]; rfl, hBr⟩
  · have hnI : ((g.length : Int) != (h.length : Int)) = true := by simp; omega
    have HNE := Lib.hid (show q = false from by rw [← HQ.out]; exact decide_eq_false fun e => hl (by rw [e]))
    go_enter Tryz.func87, Tryz.ntmps87
    go_wp2
    go_ret
    exact ⟨by rw [HNE.out]; rfl, by repeat (first | exact Below.refl _ _ | exact hB | refine Below.drew ?_ | refine below_drewN ?_ _ | refine bset ?_ (by simp <;> omega) _ | refine bal ?_ _)⟩
set_option maxRecDepth 100000 in
set_option maxHeartbeats 2000000 in
theorem sameM_c (va vb : Value) (g h : Grid) (w : World) (ha : IsM 0 w va g) (hb : IsM 0 w vb h) (hgl : g.length ≤ 65536) (hg : ∀ i, i < g.length → (g.getD i []).length ≤ 1099511627775) (hh : ∀ i, i < h.length → (h.getD i []).length ≤ 1099511627775) :
    Calls Tryz.prog 32 #[va, vb] w fun e w' => e = .returned (.bool (decide (g = h))) ∧ Below w.heap.size w w' := by
  obtain ⟨aa, ca, rfl, la⟩ := ha
  obtain ⟨ab, cb, rfl, lb⟩ := hb
  have EC := Lib.hid (fun W (q : Below w.heap.size w W) => eqFunc_c (.slice aa g.length ca) (.slice ab h.length cb) g h W (la.keep (prs_prow 0) q) (lb.keep (prs_prow 0) q) hgl hg hh)
  clear la lb hg hh hgl
  obtain ⟨q, hq⟩ : ∃ q, decide (g = h) = q := ⟨_, rfl⟩
  rw [hq] at EC ⊢
  clear hq
  have hB := Below.refl w.heap.size w
  go_enter Tryz.func32, Tryz.ntmps32
  go_wp2_with fail
  (with_reducible refine (EC.out _ ?_).mono ?_); (repeat (first | exact Below.refl _ _ | exact hB | refine Below.drew ?_ | refine below_drewN ?_ _ | refine bset ?_ (by simp <;> omega) _ | refine bal ?_ _))
  rintro e w1 ⟨rfl, hb1⟩
  have hB1 : Below w.heap.size w w1 := bthen (by repeat (first | exact Below.refl _ _ | exact hB | refine Below.drew ?_ | refine below_drewN ?_ _ | refine bset ?_ (by simp <;> omega) _ | refine bal ?_ _)) hb1
  clear EC
  go_wp2
  go_ret
  exact ⟨rfl, hB1⟩
end Go.Proofs.YthaohpfbengabaaGreatDoor

/- matrices that New makes: what is done to them, in one form. -/
namespace Go.Proofs.YthaohpfbengabaaGreatDoor
open Num
open Go.ChangeShapes Go.WideShapes Go.ChangeAt Go.RowKit
set_option linter.unusedVariables false
set_option linter.unusedSimpArgs false
theorem fits_yes2 {g : Grid} (h : fitsE g = 0) : (0 < g.length ∧ 0 < cols g ∧ g.length ≤ 16 ∧ cols g ≤ 16) ∧ Rct g (cols g) := by
  unfold fitsE at h
  split at h
  · cases h
  · split at h
    · cases h
    · split at h
      · refine ⟨⟨by omega, by omega, by omega, by omega⟩, fun i hi => ?_⟩
        rename_i h3
        exact h3 i hi
      · cases h
theorem i64_bd2 {w : World} {v : Value} {l : List Int} (h : RowI w v l) : ∀ j, Bd 64 (l.getD j 0) := fun j => by
  obtain ⟨a, c, -, h⟩ := h
  by_cases hj : j < l.length
  · obtain ⟨b, off, -, -, h5⟩ := h j hj
    unfold I64 at h5; unfold Bd; omega
  · rw [List.getD_eq_getElem?_getD, List.getElem?_eq_none (by omega)]; exact bd_zero
theorem i64_bdM2 {w : World} {v : Value} {g : Grid} (h : GridI w v g) : BdM 64 g := fun i j => by
  obtain ⟨a, c, -, h⟩ := h
  by_cases hi : i < g.length
  · obtain ⟨b, off, u, -, -, hr⟩ := h i hi
    exact i64_bd2 hr j
  · unfold gat
    rw [List.getD_eq_getElem?_getD (l := g), List.getElem?_eq_none (by omega)]
    simp [bd_zero]
/-- a matrix in memory, of sixteen rows and columns at most -/
structure Mt (k : Nat) (g : Grid) (v : Value) (w : World) : Prop where
  m : IsM 0 w v g
  rc : Rct g (cols g)
  sz : 0 < g.length ∧ 0 < cols g ∧ g.length ≤ 16 ∧ cols g ≤ 16
  bd : BdM k g
theorem Mt.keep {k : Nat} {g : Grid} {v : Value} {w w' : World} (h : Mt k g v w) (b : Below w.heap.size w w') : Mt k g v w' := ⟨h.m.keep b, h.rc, h.sz, h.bd⟩
theorem Mt.mono {k m : Nat} {g : Grid} {v : Value} {w : World} (h : Mt k g v w) (hk : k ≤ m) : Mt m g v w := ⟨h.m, h.rc, h.sz, h.bd.mono hk⟩
theorem Mt.al {k : Nat} {g : Grid} {v : Value} {w : World} (h : Mt k g v w) (o : Obj) : Mt k g v (w.alloc o) := h.keep (bal (Below.refl _ _) _)
theorem Mt.dr {k : Nat} {g : Grid} {v : Value} {w : World} (h : Mt k g v w) : Mt k g v w.drew := h.keep (Below.refl _ _).drew
theorem Mt.setM {k : Nat} {g : Grid} {v : Value} {w : World} (h : Mt k g v w) {p : Addr} (ht : typOf w p.block = some 27) (u : Value) : Mt k g v (w.setCell p u) := ⟨h.m.setM ht u, h.rc, h.sz, h.bd⟩
theorem Mt.times {k m n : Nat} {g h : Grid} {v u : Value} {w : World} (h1 : Mt k g v w) (h2 : Mt m h u w) (e : cols g = h.length) (hk : k + m + 16 ≤ 17179869184) (hn : g.length = n) :
    Calls Tryz.prog 36 #[v, u] w fun e w' => (∃ a c, e = .returned (.tuple #[.agg #[.slice a n c], .int .i64 0]) ∧ Mt (k + m + 16) (timesG g h) (.agg #[.slice a n c]) w') ∧ Below w.heap.size w w' := by
  have s1 := h1.sz
  have s2 := h2.sz
  refine (timesM_c v u g h k m w h1.m h2.m h1.rc h2.rc h1.bd h2.bd (by omega) (by omega) (by omega) (by omega)).mono ?_
  rintro ee w' ⟨ho, hb⟩
  refine ⟨?_, hb⟩
  rcases ho with ⟨-, x, rfl, hx⟩ | ⟨no, -⟩
  · have hx := hx.rebase (Nat.zero_le _)
    obtain ⟨a, c, rfl⟩ := hx.lit
    rw [times_len, hn] at hx ⊢
    exact ⟨a, c, rfl, hx, by rw [times_cols (by omega)]; exact times_rct g h, ⟨by rw [times_len]; omega, by rw [times_cols (by omega)]; omega, by rw [times_len]; omega, by rw [times_cols (by omega)]; omega⟩, (show BdM (k + m + cols g) (timesG g h) from tab_bd fun i j _ _ => isum_bd (fun t => (h1.bd i t).mul (h2.bd t j)) _).mono (by omega)⟩
  · exact absurd ⟨e, by omega⟩ no
theorem Mt.plus {k n : Nat} {g h : Grid} {v u : Value} {w : World} (h1 : Mt k g v w) (h2 : Mt k h u w) (e : g.length = h.length) (e2 : cols g = cols h) (hk : k ≤ 17179869184) (hn : g.length = n) :
    Calls Tryz.prog 33 #[v, u] w fun e w' => (∃ a c, e = .returned (.tuple #[.agg #[.slice a n c], .int .i64 0]) ∧ Mt (k + 1) (plusG g h) (.agg #[.slice a n c]) w') ∧ Below w.heap.size w w' := by
  have s1 := h1.sz
  refine (plusM_c v u g h k w h1.m h2.m h1.rc h2.rc h1.bd h2.bd hk (by omega) (by omega)).mono ?_
  rintro ee w' ⟨ho, hb⟩
  refine ⟨?_, hb⟩
  rcases ho with ⟨-, x, rfl, hx⟩ | ⟨no, -⟩
  · have hx := hx.rebase (Nat.zero_le _)
    obtain ⟨a, c, rfl⟩ := hx.lit
    rw [plus_len, hn] at hx ⊢
    exact ⟨a, c, rfl, hx, by rw [plus_cols (by omega)]; exact tab_rect _ _ _, ⟨by rw [plus_len]; omega, by rw [plus_cols (by omega)]; omega, by rw [plus_len]; omega, by rw [plus_cols (by omega)]; omega⟩, tab_bd fun i j _ _ => (h1.bd i j).add (h2.bd i j)⟩
  · exact absurd ⟨e, e2⟩ no
theorem Mt.scale {k m n : Nat} {g : Grid} {c : Int} {v u : Value} {w : World} (h1 : Mt k g v w) (hu : IsInt w u c) (hc : Bd m c) (hk : k ≤ 17179869184) (hm : m ≤ 17179869184) (hn : g.length = n) :
    Calls Tryz.prog 40 #[v, u] w fun e w' => (∃ a c', e = .returned (.agg #[.slice a n c']) ∧ Mt (k + m) (scaleG g c) (.agg #[.slice a n c']) w') ∧ Below w.heap.size w w' := by
  have s1 := h1.sz
  refine (scaleM_c v u g c k m w h1.m hu h1.rc h1.bd hc hk hm (by omega) (by omega)).mono ?_
  rintro ee w' ⟨⟨x, rfl, hx⟩, hb⟩
  refine ⟨?_, hb⟩
  have hx := hx.rebase (Nat.zero_le _)
  obtain ⟨a, c', rfl⟩ := hx.lit
  have e : cols (scaleG g c) = cols g := tab_cols _ (by omega)
  have e2 : (scaleG g c).length = g.length := tab_len _ _ _
  rw [e2, hn] at hx ⊢
  exact ⟨a, c', rfl, hx, by rw [e]; exact tab_rect _ _ _, ⟨by rw [e2]; omega, by rw [e]; omega, by rw [e2]; omega, by rw [e]; omega⟩, tab_bd fun i j _ _ => (h1.bd i j).mul hc⟩
theorem Mt.same {k m : Nat} {g h : Grid} {v u : Value} {w : World} (h1 : Mt k g v w) (h2 : Mt m h u w) (e : g = h) :
    Calls Tryz.prog 32 #[v, u] w fun e w' => e = .returned (.bool true) ∧ Below w.heap.size w w' := by
  have s1 := h1.sz
  have s2 := h2.sz
  subst e
  have h := sameM_c v u g g w h1.m h2.m (by omega) (fun i hi => by rw [h1.rc i hi]; omega) (fun i hi => by rw [h2.rc i hi]; omega)
  rw [show decide (g = g) = true by simp] at h
  exact h
theorem colsI {n : Nat} {g : Grid} {v : Value} {w : World} (h1 : IsM 0 w v g) (hn : cols g = n) :
    Calls Tryz.prog 61 #[v] w fun e w' => e = .returned (.int .i64 (n : Nat)) ∧ Below w.heap.size w w' := by
  obtain ⟨a, c, rfl, hl⟩ := h1
  rw [← hn]
  exact colsM_c a c g w hl
theorem prow_keep {base : Nat} {w w' : World} {v : Value} {l : List Int} (h : PRow base w v l) (k : Below w.heap.size w w') : PRow base w' v l := IsRow.keep lims_int h k
theorem cmpI_self (x : Int) : cmpI x x = 0 := by unfold cmpI; rw [if_neg (by omega), if_pos rfl]
theorem cmp_same {vx vy : Value} {x : Int} {w : World} (hx : IsInt w vx x) (hy : IsInt w vy x) : Calls Tryz.prog 64 #[vx, vy] w fun e w' => e = .returned (.int .i64 0) ∧ Below w.heap.size w w' := by
  have h := cmp_c vx vy x x w hx hy
  rw [cmpI_self] at h
  exact h
theorem app_bd2 {g : Grid} {l : List Int} {k m : Nat} (rg : Rct g (cols g)) (hl : l.length = cols g) (h1 : BdM k g) (h2 : ∀ j, Bd m (l.getD j 0)) : ∀ j, Bd (k + m + cols g) ((applyG g l).getD j 0) := fun j => by
  by_cases hj : j < g.length
  · rw [app_at rg hl hj]
    exact isum_bd (fun t => (h1 j t).mul (h2 t)) _
  · rw [List.getD_eq_getElem?_getD, List.getElem?_eq_none (by rw [app_len]; omega)]; exact bd_zero
theorem Mt.apply {k m n : Nat} {g : Grid} {l : List Int} {v u : Value} {w : World} (h1 : Mt k g v w) (hu : PRow 0 w u l) (hl : l.length = cols g) (bl : ∀ j, Bd m (l.getD j 0)) (hk : k + m + 16 ≤ 17179869184) (hn : g.length = n) :
    Calls Tryz.prog 44 #[v, u] w fun e w' => (∃ a c, e = .returned (.tuple #[.slice a n c, .int .i64 0]) ∧ PRow 0 w' (.slice a n c) (applyG g l) ∧ (applyG g l).length = n ∧ ∀ j, Bd (k + m + 16) ((applyG g l).getD j 0)) ∧ Below w.heap.size w w' := by
  have s1 := h1.sz
  refine (applyM_c v u g l k m w h1.m hu h1.rc (by omega) (by omega) (by omega) h1.bd bl (by omega)).mono ?_
  rintro ee w' ⟨ho, hb⟩
  refine ⟨?_, hb⟩
  rcases ho with ⟨-, -, x, rfl, hx⟩ | ⟨no, -⟩
  · obtain ⟨a, c, rfl⟩ := hx.ex
    have hx2 : PRow 0 w' _ (applyG g l) := hx.row.rebase (Nat.zero_le _)
    rw [app_len, hn] at hx2 ⊢
    exact ⟨a, c, rfl, hx2, rfl, fun j => (app_bd2 h1.rc hl h1.bd bl j).mono (by omega)⟩
  · exact absurd ⟨by omega, hl⟩ no
/-- what made answers, both ways in one -/
theorem made_any {g : Grid} {w w' : World} {e : Ending} (h : MadePost g w e w') (hb : BdM 64 g) :
    (∃ a n c ok g', e = .returned (.tuple #[.agg #[.slice a n c], .bool ok]) ∧ IsM 0 w' (.agg #[.slice a n c]) g' ∧ n = g'.length ∧ (ok = true → g' = g ∧ Mt 64 g (.agg #[.slice a n c]) w')) ∧ Below w.heap.size w w' := by
  obtain ⟨h, hB⟩ := h
  refine ⟨?_, hB⟩
  rcases h with ⟨h64, hf, v, rfl, hv⟩ | ⟨-, rfl⟩
  · obtain ⟨a, c, rfl⟩ := hv.lit
    obtain ⟨hs, hr⟩ := fits_yes2 hf
    exact ⟨a, _, c, true, g, rfl, hv, rfl, fun _ => ⟨rfl, hv, hr, hs, hb⟩⟩
  · exact ⟨none, 0, 0, false, [], rfl, IsM.nil _ _, rfl, fun h => by cases h⟩
end Go.Proofs.YthaohpfbengabaaGreatDoor

/- matrix: what Pivots' iterator tells; Rank. -/
namespace Go.Proofs.YthaohpfbengabaaGreatDoor
open Num
open Go.ChangeShapes Go.WideShapes Go.ChangeAt Go.RowKit
set_option linter.unusedVariables false
set_option linter.unusedSimpArgs false
attribute [local go_sem ↓] Go.wp_at_zero Go.wp_at_succ
/-- all cells but those of one block lie as they lay -/
def KpC (c : Nat) (X Y : World) : Prop := X.heap.size ≤ Y.heap.size ∧ ∀ (B i : Nat) (v : Value), B ≠ c → X.cell? ⟨B, i, none⟩ = some v → Y.cell? ⟨B, i, none⟩ = some v
theorem KpC.refl (c : Nat) (X : World) : KpC c X X := ⟨Nat.le_refl _, fun _ _ _ _ h => h⟩
theorem KpC.trans {c : Nat} {X Y Z : World} (h : KpC c X Y) (k : KpC c Y Z) : KpC c X Z := ⟨Nat.le_trans h.1 k.1, fun B i v hb hv => k.2 B i v hb (h.2 B i v hb hv)⟩
theorem KpC.put {c l : Nat} {X : World} {o o' : Obj} (h : X.heap[l]? = some o) (ho : o.isCells = false) : KpC c X (X.putObj l o') := ⟨Nat.le_of_eq (by simp), fun B i v _ hc => by
  have e : B ≠ l := fun e => by
    subst e
    obtain ⟨o2, h2, c2⟩ := cells_of_cell hc
    have h2' : X.heap[B]? = some o2 := h2
    rw [h] at h2'; cases h2'; rw [ho] at c2; cases c2
  rw [World.cell?_of_block (w := X) (World.putObj_heap_other e)]; exact hc⟩
/-- the list of the pivots' columns -/
def IsPv (b0 : Nat) (w : World) (v : Value) (L : List Nat) : Prop := IsL 3 PInt b0 w v L
theorem IsPv.al {b0 : Nat} {w : World} {v : Value} {L : List Nat} (h : IsPv b0 w v L) (o : Obj) : IsPv b0 (w.alloc o) v L := IsL.keep prs_pint h (bal (Below.refl _ _) _)
theorem IsPv.dr {b0 : Nat} {w : World} {v : Value} {L : List Nat} (h : IsPv b0 w v L) : IsPv b0 w.drew v L := IsL.keep prs_pint h (Below.refl _ _).drew
theorem IsPv.setT {b0 : Nat} {w : World} {v : Value} {L : List Nat} (h : IsPv b0 w v L) {p : Addr} (ht : typOf w p.block = some 36) (u : Value) : IsPv b0 (w.setCell p u) v L :=
  IsL.kp (S' := fun t => t ≠ 36) prs_pint h ((Kp.refl _ _).set (fun t ht' => by rw [ht] at ht'; cases ht'; exact fun h => h rfl) _) (fun t ht => ht.elim) (by decide)
theorem IsL.view0 {α : Type} {T : TypeId} {Pr : World → Value → α → Prop} {base : Nat} {w : World} {v : Value} {g : List α} (h : IsL T Pr base w v g) : ∃ a c, v = .slice a g.length c ∧ g.length ≤ c ∧ ∀ k (hk : k < g.length), ∃ b off u, a = some ⟨b, off, none⟩ ∧ base ≤ b ∧ w.cell? ⟨b, off + k, none⟩ = some u ∧ Pr w u g[k] := by
  obtain ⟨a, c, h1, h2, h3, h4⟩ := h
  refine ⟨a, c, h1, h2, fun k hk => ?_⟩
  rcases h4 with h4 | ⟨b, off, e, hb, ht, hi⟩
  · subst h4; exact absurd hk (by simp)
  · obtain ⟨u, hu, hp⟩ := hi k hk
    exact ⟨b, off, u, e, hb, hu, hp⟩
/-- the columns of the pivots -/
def pivL (g : Grid) : List Nat := (Det.elR g.length (gat g) (cols g)).p
set_option maxRecDepth 100000 in
set_option maxHeartbeats 8000000 in
theorem pivs1_c (l B c N K : Nat) (g : Grid) (a : Option Addr) (cp : Nat) (J Jx : List Nat → World → Prop) (hJ : ∀ pre W W', J pre W → W.grownBy W' none → J pre W')
    (hY : ∀ pre x W1, J pre W1 → pre.length < N → YieldAt Fence.wide 3 Tryz.prog l #[.int .i64 (x : Nat)] W1 fun e W' => (e = .returned (.bool true) ∧ J (pre ++ [x]) W' ∧ KpC c W1 W') ∨ (e = .returned (.bool false) ∧ Jx (pre ++ [x]) W'))
    (W : World) (hc : c < W.heap.size) (hv : IsM 0 W (.agg #[.slice a g.length cp]) g) (hm : W.cell? ⟨B, 0, none⟩ = some (.slice a g.length cp)) (rg : Rct g (cols g)) (hn : g.length ≤ 65536) (hcl : cols g ≤ 65536) (hp0 : 0 < g.length → 0 < cols g) (hK1 : 1 ≤ K) (hbd : BdM K g) (hK : kb K (cols g) ≤ 4294967296) (h0 : J [] W) (hN : (pivL g).length ≤ N) :
    Calls Tryz.prog 79 #[.func (.yield l) #[] #[], .pointer (some ⟨B, 0, none⟩)] W fun e W' => (∃ v, e = .returned v) ∧ ((∃ xs, xs = pivL g ∧ J xs W') ∨ (∃ pre, pre <+: pivL g ∧ Jx pre W')) := by
  have hz0 : g.length = 0 → cols g = 0 := fun h => by rw [List.length_eq_zero_iff.1 h]; rfl
  have EC := Lib.hid (fun V (q : Below W.heap.size W V) => (show Calls Tryz.prog 80 #[.slice a g.length cp, .int .i64 (cols g : Nat)] V (ElimPost g (cols g) V) from by
    obtain ⟨a', c', e, hl⟩ := hv.keep q
    cases e
    exact elim_c _ g (cols g) (cols g) K V hl rg (by omega) (by omega) (Nat.le_refl _) hz0 hp0 hK1 hbd hK))
  have CC := Lib.hid (fun V (q : Below W.heap.size W V) => colsI (hv.keep q) (n := cols g) rfl)
  unfold ElimPost at EC
  have eL : (Det.elR g.length (gat g) (cols g)).p = pivL g := rfl
  rw [eL] at EC
  obtain ⟨L, hL⟩ : ∃ L, pivL g = L := ⟨_, rfl⟩
  rw [hL] at EC hN ⊢
  obtain ⟨z, hz⟩ : ∃ z, (Det.elR g.length (gat g) (cols g)).last * (Det.elR g.length (gat g) (cols g)).sign = z := ⟨_, rfl⟩
  rw [hz] at EC
  clear eL hL hz hz0
  obtain ⟨n, hnE⟩ : ∃ n, g.length = n := ⟨_, rfl⟩
  obtain ⟨m, hmE⟩ : ∃ m, cols g = m := ⟨_, rfl⟩
  rw [hnE] at EC CC hm
  rw [hmE] at EC CC
  have HY := Lib.hid hY
  have HJ := Lib.hid hJ
  have HN := Lib.hid hN
  clear hv rg hn hcl hp0 hbd hK hnE hmE hY hJ hN
  have hB := Below.refl W.heap.size W
  have zm := cell_lt hm
  go_enter Tryz.func79, Tryz.ntmps79
  go_wp2
  go_cut [4] (fun s4 wx => ∃ pa pc, s4 = .slice pa L.length pc ∧ Hid (IsPv W.heap.size wx (.slice pa L.length pc) L) ∧ Below W.heap.size W wx)
  case first =>
    have HS := Lib.hid (show ∀ V, Below W.heap.size W V → V.cell? ⟨B, 0, none⟩ = some (.slice a n cp) from fun V q => bkeep q hm)
    have hBj := Below.refl W.heap.size W
    have hla1 := hBj.size
    go_region_held3 (fun V => V.cell? ⟨B, 0, none⟩ = some (.slice a n cp))
      (first | (refine HS.out _ ?_; (repeat' (first | exact Below.refl _ _ | exact hBj | refine Below.drew ?_ | refine below_drewN ?_ _ | refine bal ?_ _ | refine bset ?_ ?_ _ | exact hla11 | exact Nat.le_trans hla11 (Nat.le_succ _) | exact hla12 | exact Nat.le_trans hla12 (Nat.le_succ _) | exact Nat.le_refl _ | exact Nat.le_succ _)); done) | fail)
      (first
      | (go_at_call 61; (with_reducible refine (CC.out _ ?_).mono ?_); (repeat (first | exact Below.refl _ _ | exact hBj | refine Below.drew ?_ | refine below_drewN ?_ _ | refine bset ?_ (by simp <;> omega) _ | refine bal ?_ _)); rintro e w11 ⟨rfl, hb11⟩; (have hBd : Below W.heap.size W w11 := bthen (by repeat (first | exact Below.refl _ _ | exact hBj | refine Below.drew ?_ | refine below_drewN ?_ _ | refine bset ?_ (by simp <;> omega) _ | refine bal ?_ _)) hb11; clear hBj; have hBj := hBd; clear hBd); have hc11 := (bcell hb11).1; have hf11 := (bcell hb11).2; have ht11 := tcell hb11; have hla11 := hBj.size; have hs11 := hb11.size; (try simp [go_sem] at hs11); (try have qa11 : W.heap.size < w11.heap.size := by omega))
      | (go_at_call 80; (with_reducible refine (EC.out _ ?_).mono ?_); (repeat (first | exact Below.refl _ _ | exact hBj | refine Below.drew ?_ | refine below_drewN ?_ _ | refine bset ?_ (by simp <;> omega) _ | refine bal ?_ _)); rintro e w12 ⟨⟨ea, ec, pa, pc, zv, rfl, hp, hzv⟩, hb12⟩; have HP := Lib.hid (show IsPv W.heap.size w12 (.slice pa L.length pc) L from IsL.rebase hp (show Below W.heap.size W _ by repeat (first | exact Below.refl _ _ | exact hBj | refine Below.drew ?_ | refine below_drewN ?_ _ | refine bset ?_ (by simp <;> omega) _ | refine bal ?_ _)).size); (have hBd : Below W.heap.size W w12 := bthen (by repeat (first | exact Below.refl _ _ | exact hBj | refine Below.drew ?_ | refine below_drewN ?_ _ | refine bset ?_ (by simp <;> omega) _ | refine bal ?_ _)) hb12; clear hBj; have hBj := hBd; clear hBd); have hc12 := (bcell hb12).1; have hf12 := (bcell hb12).2; have ht12 := tcell hb12; have hla12 := hBj.size; have hs12 := hb12.size; (try simp [go_sem] at hs12); (try have qa12 : W.heap.size < w12.heap.size := by omega); (try have qb12 : w11.heap.size < w12.heap.size := by omega); obtain ⟨nz, az, cz, lz, rfl, -⟩ := hzv; unfold iv at *; clear hp)
      | fail)
    all_goals
      go_wp2_with fail
      go_meet
      refine (fun hbx => ⟨pa, pc, rfl, Lib.hid ?_, hbx⟩ : Below W.heap.size W _ → _) ?_
      all_goals first
        | ((repeat' (first | exact Below.refl _ _ | exact hBj | refine Below.drew ?_ | refine below_drewN ?_ _ | refine bal ?_ _ | refine bset ?_ ?_ _ | exact hla11 | exact Nat.le_trans hla11 (Nat.le_succ _) | exact hla12 | exact Nat.le_trans hla12 (Nat.le_succ _) | exact Nat.le_refl _ | exact Nat.le_succ _)); done)
        | ((repeat' (first | exact HP.out | refine IsPv.al ?_ _ | refine IsPv.dr ?_ | refine IsPv.setT ?_ ?_ _)) <;> (simp (disch := (first | (simp; done) | (simp; omega) | omega)) only [typ_set, typ_alloc_eq, typ_alloc_lt, ht11, ht12, typ_drew]; done))
  case rest =>
    obtain ⟨pa, pc, rfl, HP, hk⟩ := hcut
    have hj0 := HJ.out [] W wc h0 (grown_of_below hk)
    have hcs := hk.size
    have hLb : L.length ≤ 9223372036854775807 := by
      obtain ⟨_, c9, e9, h9, h10, _⟩ := (show IsL 3 PInt W.heap.size wc (.slice pa L.length pc) L from HP.out)
      unfold maxLen at h10; omega
    clear EC CC hm zm hB h0
    go_wp2
    go_loopw [19] (fun x wr => ∃ k : Nat, k ≤ L.length ∧ x = .int .i64 k ∧ J (L.take k) wr ∧ KpC c wc wr) (fun x _ => L.length - (intOf x).toNat)
    case atStart => exact ⟨0, Nat.zero_le _, rfl, hj0, KpC.refl _ _⟩
    case round =>
      obtain ⟨k, hkl, rfl, hj, hkp⟩ := hrel
      by_cases hlt : k < L.length
      · have hltI : (k : Int) < (L.length : Int) := by omega
        obtain ⟨a', c', he, -, vr⟩ := IsL.view0 (show IsL 3 PInt W.heap.size wc (.slice pa L.length pc) L from HP.out)
        obtain ⟨rfl, -, rfl⟩ := Value.slice.inj he
        obtain ⟨b, off, u, rfl, hbb, hu, hpi⟩ := vr k hlt
        have hpi2 : u = .int .i64 (L[k] : Nat) := hpi
        subst hpi2
        have hu2 := hkp.2 b (off + k) _ (by omega) hu
        have HT := Lib.hid (show L.take (k + 1) = L.take k ++ [L[k]] by
          rw [List.take_add_one, List.getElem?_eq_getElem hlt]; rfl)
        obtain ⟨fn, tmps, asg, body, hy, hR⟩ := HY.out (L.take k) L[k] wr hj (by rw [List.length_take]; have := HN.out; omega)
        obtain ⟨x, hx⟩ : ∃ x, L[k] = x := ⟨_, rfl⟩
        rw [hx] at hy hR hu2 HT
        have zu := cell_lt hu2
        clear he vr hu hpi hx hj
        go_upto_region 4 with (fail)
        refine (wpIn_wide (n := 4)).1 ?_
        gi_wp2
        refine hR.mono ?_
        rintro e W' (⟨rfl, hJ', hk'⟩ | ⟨rfl, hJx'⟩)
        · gi_wp2
          go_wp2
          exact ⟨⟨k + 1, hlt, by go_num, by rw [HT.out]; exact hJ', hkp.trans hk'⟩, meas hlt (by go_num) rfl⟩
        · gi_wp2
          go_wp2
          refine bodyPost_ret (results_none rfl _ _ _) rfl ?_
          exact ⟨⟨_, rfl⟩, .inr ⟨L.take (k + 1), List.take_prefix _ _, by rw [HT.out]; exact hJx'⟩⟩
      · obtain rfl : k = L.length := by omega
        have hltI : ¬ (L.length : Int) < (L.length : Int) := by omega
        rw [List.take_length] at hj
        go_wp2
        refine bodyPost_end (results_none rfl _ _ _) rfl ?_
        first | exact ⟨⟨_, rfl⟩, .inl hj⟩ | exact ⟨⟨_, rfl⟩, .inl ⟨L, rfl, hj⟩⟩
theorem pivs_stops (B c N K n : Nat) (g : Grid) (a : Option Addr) (cp : Nat) (w : World) (hc : c < w.heap.size) (hv : IsM 0 w (.agg #[.slice a g.length cp]) g) (hm : w.cell? ⟨B, 0, none⟩ = some (.slice a g.length cp)) (rg : Rct g (cols g)) (hn : g.length ≤ 65536) (hcl : cols g ≤ 65536) (hp0 : 0 < g.length → 0 < cols g) (hK1 : 1 ≤ K) (hbd : BdM K g) (hK : kb K (cols g) ≤ 4294967296) (hN : (pivL g).length ≤ N) :
    SeqStopsK Fence.wide n Tryz.prog 79 #[.pointer (some ⟨B, 0, none⟩)] (fun x : Nat => #[.int .i64 (x : Nat)]) (KpC c) (· = pivL g) (· <+: pivL g) N w := by
  intro l J Jx W hW hJ hJx hY h0
  refine callsIn_wide.2 ?_
  exact pivs1_c l B c N K g a cp J Jx (fun pre W1 W2 hj hg => hJ pre W1 W2 none hj hg (fun r e => by cases e)) (fun pre x W1 hp hl => yieldAt_wide (hY pre x W1 hp hl)) W (Nat.lt_of_lt_of_le hc hW.size) (hv.keep hW) (bkeep hW hm) rg hn hcl hp0 hK1 hbd hK h0 hN
end Go.Proofs.YthaohpfbengabaaGreatDoor

/- matrix: Rank. -/
namespace Go.Proofs.YthaohpfbengabaaGreatDoor
open Num
open Go.ChangeShapes Go.WideShapes Go.ChangeAt Go.RowKit
set_option linter.unusedVariables false
set_option linter.unusedSimpArgs false
attribute [local go_sem ↓] Go.wp_at_zero Go.wp_at_succ
attribute [local go_sem] Oper.semAt_some
set_option maxRecDepth 100000 in
theorem pivots_b (a : Option Addr) (n c : Nat) (w : World) : Calls Tryz.prog 17 #[.agg #[.slice a n c]] w fun e w' => (e = .returned (.func (.func 79) #[] #[.pointer (some ⟨w.heap.size, 0, none⟩)]) ∧ w'.cell? ⟨w.heap.size, 0, none⟩ = some (.slice a n c)) ∧ Below w.heap.size w w' := by
  have hB := Below.refl w.heap.size w
  go_enter Tryz.func17, Tryz.ntmps17
  go_wp2
  go_ret
  exact ⟨⟨rfl, by simp [go_sem]⟩, by repeat (first | exact Below.refl _ _ | exact hB | refine Below.drew ?_ | refine below_drewN ?_ _ | refine bset ?_ (by simp <;> omega) _ | refine bal ?_ _)⟩
set_option maxRecDepth 100000 in
set_option maxHeartbeats 8000000 in
theorem rank_c (v : Value) (g : Grid) (K : Nat) (w : World) (hv : IsM 0 w v g) (rg : Rct g (cols g)) (hn : g.length ≤ 65536) (hcl : cols g ≤ 65536) (hp0 : 0 < g.length → 0 < cols g) (hK1 : 1 ≤ K) (hbd : BdM K g) (hK : kb K (cols g) ≤ 4294967296) (hL : (pivL g).length ≤ 65536) :
    Calls Tryz.prog 18 #[v] w fun e w' => e = .returned (.int .i64 ((pivL g).length : Nat)) ∧ Below w.heap.size w w' := by
  have HV := Lib.hid hv
  obtain ⟨a, cp, rfl, -⟩ := hv
  obtain ⟨n, hnE⟩ : ∃ n, g.length = n := ⟨_, rfl⟩
  have HS := Lib.hid (fun V B (q : Below w.heap.size w V) (hc : w.heap.size + 1 < V.heap.size) (hm : V.cell? ⟨B, 0, none⟩ = some (.slice a g.length cp)) => pivs_stops B (w.heap.size + 1) (pivL g).length K 8 g a cp V hc (HV.out.keep q) hm rg hn hcl hp0 hK1 hbd hK (Nat.le_refl _))
  rw [hnE] at HS ⊢
  have hB := Below.refl w.heap.size w
  obtain ⟨L, hL2⟩ : ∃ L, pivL g = L := ⟨_, rfl⟩
  rw [hL2] at HS hL ⊢
  have HLL := Lib.hid hL
  clear hL2 hnE rg hn hcl hp0 hbd hK HV hL
  refine calls_of_wp_marks Tryz.func18 rfl ?_
  simp only [Tryz.ntmps18, List.size_toArray, List.length_cons, List.length_nil, Nat.reduceAdd, Nat.reduceSub, Array.replicate_succ, Array.replicate_zero, List.push_toArray, List.append_toArray, List.nil_append, List.cons_append]
  go_wp2_with fail
  (with_reducible refine (pivots_b _ _ _ _).mono ?_)
  rintro e w2 ⟨⟨rfl, hm2⟩, hb2⟩
  have r0 : w2.cell? ⟨w.heap.size + 1, 0, none⟩ = some (.int .i64 0) := bkc hb2
  have zr0 := cell_lt r0
  have r0f : w2.frozen? ⟨w.heap.size + 1, 0, none⟩ = false := bkcf (v := .int .i64 0) hb2
  have hB : Below w.heap.size w w2 := bthen (by repeat (first | exact Below.refl _ _ | exact hB | refine Below.drew ?_ | refine below_drewN ?_ _ | refine bset ?_ (by simp <;> omega) _ | refine bal ?_ _)) hb2
  have hz : w.heap.size ≤ w2.heap.size := hB.size
  have hs2 := hb2.size
  simp only [World.size_alloc] at hm2 hs2
  have HI2 := Lib.hid (And.intro r0 (And.intro r0f (And.intro hB (Nat.le_refl w2.heap.size))))
  have HSQ := HS.out w2 (w.heap.size + 1 + 1) hB (by omega) hm2
  have HC := Lib.hid hs2
  clear HS hm2 hb2 r0 r0f zr0 hz
  go_wp2
  refine wp_rangeK (gf := 79) (lb := #[.pointer (some ⟨w.heap.size + 1 + 1, 0, none⟩)]) (w0 := w2) (L := L) (N := L.length) (Kp := KpC (w.heap.size + 1)) (by simp [Act.eval]) (enters_of Tryz.func79 (by kernel_rfl) rfl)
    (encs := fun x : Nat => #[.int .i64 (x : Nat)]) HSQ (fun h k => h.trans k)
    (fun W l o o' h1 h2 h3 h4 => KpC.put h2 h3) (Below.refl _ _) (fun _ => rfl)
    (fun pre W => (W.cell? ⟨w.heap.size + 1, 0, none⟩ = some (.int .i64 (pre.length : Int)) ∧ W.frozen? ⟨w.heap.size + 1, 0, none⟩ = false ∧ Below w.heap.size w W ∧ w2.heap.size ≤ W.heap.size))
    (fun c pre W => False)
    ?_ ?_ ?_ ?_ ?_
    (fun T x a' W => a' = { tmps := T.setIfInBounds 6 (.int .i64 (x : Nat)), defers := [] } ∧ w2.heap.size ≤ W.heap.size)
    ?_ ?_ ?assign0 ?body0 ?done0 ?stop0
  case assign0 =>
    rintro l pre x W K hi hK
    gi_wp2
    exact hK _ _ (KeepsFrom.refl _ _) (KpC.refl _ _) hi ⟨by simp, hi.2.2.2⟩
  case body0 =>
    rintro l pre x a' w6 ⟨n0, n0f, hB6, hs6⟩ ⟨rfl, _⟩ hl
    simp only [List.setIfInBounds_toArray, List.set_cons_succ, List.set_cons_zero]
    have hpl : (pre.length : Int) < 65536 := by have := HLL.out; omega
    have hz1 := cell_lt n0
    gi_wp2
    refine ⟨kf_set (KeepsFrom.refl _ _) _ _, ⟨by simp, fun B i v hb hv => cell_far hv (fun e => hb (congrArg Addr.block e).symm) _⟩, ?_⟩
    dsimp only
    rw [show ((pre ++ [x]).length : Int) = (pre.length : Int) + 1 by simp]
    exact ⟨cell_here n0 _, by rw [World.frozen?_setCell]; exact n0f, bset hB6 (by simp) _, by simp; exact hs6⟩
  case done0 =>
    rintro D w8 hDs ⟨n0, n0f, hB8, hs8⟩ hK0
    have hDl := (Array.getElem?_eq_some_iff.1 hK0).1
    have hz1 := cell_lt n0
    go_wp2
    refine ⟨by simp, .inl ⟨_, _, rfl, run_takeDeferred (b := D) (ds := []) hK0, ?_⟩⟩
    refine ⟨.int .i64 (L.length : Nat), ?_, rfl, b_put hB8 (by have := hB8.size; omega) _⟩
    simp [results, Tryz.results18, go_sem]
  case stop0 => intro D c pre W _ _ h; cases h
  · exact fun pre W W' h s => ⟨s.cell h.1, s.frozen h.1 h.2.1, h.2.2.1.trans (s.below.mono (by have := HI2.out.2.2.1.size; omega)), Nat.le_trans h.2.2.2 s.below.size⟩
  · exact fun c pre W W' h s => h
  · exact fun pre W h => h.2.2.2
  · exact fun c pre W h => h.elim
  · exact HI2.out
  · rintro x a' W W' ⟨rfl, h⟩ s; exact ⟨rfl, Nat.le_trans h s.below.size⟩
  · rintro x a' W ⟨rfl, h⟩; exact h
end Go.Proofs.YthaohpfbengabaaGreatDoor

/- matrices, plain: determinants of what is turned, swapped, multiplied; ranks. -/
namespace Go.Proofs.YthaohpfbengabaaGreatDoor
open Num
open Go.ChangeShapes Go.WideShapes Go.ChangeAt Go.RowKit
set_option linter.unusedVariables false
set_option linter.unusedSimpArgs false
theorem piv_le (g : Grid) : (pivL g).length ≤ g.length := by
  obtain ⟨q, h⟩ := Det.inv_all g.length (cols g) (gat g) (cols g) (Nat.le_refl _)
  exact h.k
/-- a list of the call's own: where it lies; that it may be written -/
theorem OwnL.place {α : Type} {T : TypeId} {Pr : World → Value → α → Prop} {w0 wr : World} {v : Value} {g : List α} (h : OwnL T Pr w0 wr v g) (hl : 0 < g.length) :
    ∃ b cap, v = .slice (some ⟨b, 0, none⟩) g.length cap ∧ w0.heap.size ≤ b ∧ b < wr.heap.size ∧ ∀ j, wr.frozen? ⟨b, j, none⟩ = false := by
  obtain ⟨xs, ⟨⟨hl', h1⟩, _⟩, h2⟩ := h
  rcases h1 with ⟨rfl, h0⟩ | ⟨b, cap, cur, rfl, hg, hh, hc, hm, hs, ht⟩
  · omega
  · exact ⟨b, cap, rfl, hg, (Array.getElem?_eq_some_iff.1 hh).1, fun j => by simp [World.frozen?, hh]⟩
theorem Mt.det {K : Nat} {g : Grid} {v : Value} {w : World} (h : Mt K g v w) (hs : g.length = cols g) (hK1 : 1 ≤ K) (hK : kb K 16 ≤ 4294967296) :
    Calls Tryz.prog 11 #[v] w fun e w' => (∃ nb a l c, e = .returned (.tuple #[.agg #[.bool nb, .slice a l c], .int .i64 0]) ∧ IsInt w' (.agg #[.bool nb, .slice a l c]) (Det.detE g.length (gat g))) ∧ Below w.heap.size w w' := by
  have s := h.sz
  refine (detM_c v g K w h.m h.rc (by omega) hK1 h.bd (Nat.le_trans (kb_mono K s.2.2.1) hK)).mono ?_
  rintro e w' ⟨ho, hb⟩
  refine ⟨?_, hb⟩
  have hsq : sqB g = true := by unfold sqB; simp; exact ⟨s.1, hs⟩
  rcases ho with ⟨-, u, rfl, hu⟩ | ⟨h2, -⟩
  · have hu2 := hu
    obtain ⟨nb, a, c, l, rfl, -⟩ := hu
    exact ⟨nb, a, l.length, c, rfl, hu2⟩
  · rw [hsq] at h2; cases h2
theorem Mt.rank {K : Nat} {g : Grid} {v : Value} {w : World} (h : Mt K g v w) (hK1 : 1 ≤ K) (hK : kb K 16 ≤ 4294967296) :
    Calls Tryz.prog 18 #[v] w fun e w' => e = .returned (.int .i64 ((pivL g).length : Nat)) ∧ Below w.heap.size w w' := by
  have s := h.sz
  exact rank_c v g K w h.m h.rc (by omega) (by omega) (fun _ => s.2.1) hK1 h.bd (Nat.le_trans (kb_mono K s.2.2.2) hK) (Nat.le_trans (piv_le g) (by omega))
end Go.Proofs.YthaohpfbengabaaGreatDoor

/- matrix's laws: unit: a number times the identity. -/
namespace Go.Proofs.YthaohpfbengabaaGreatDoor
open Num
open Go.ChangeShapes Go.WideShapes Go.ChangeAt Go.RowKit
set_option linter.unusedVariables false
set_option linter.unusedSimpArgs false
attribute [local go_sem ↓] Go.wp_at_zero Go.wp_at_succ
theorem idG_len (n : Nat) : (idG n).length = n := tab_len _ _ _
theorem idG_cols {n : Nat} (h : 0 < n) : cols (idG n) = n := tab_cols _ h
theorem idG_bd1 (n : Nat) : BdM 1 (idG n) := tab_bd fun i j _ _ => by
  by_cases h : i = j
  · rw [if_pos h]; unfold Bd; decide
  · rw [if_neg h]; exact bd_zero
theorem Mt.ident {n : Nat} {w : World} (h1 : 1 ≤ n) (h2 : n ≤ 16) :
    Calls Tryz.prog 67 #[.int .i64 (n : Nat)] w fun e w' => (∃ a c, e = .returned (.tuple #[.agg #[.slice a n c], .int .i64 0]) ∧ Mt 1 (idG n) (.agg #[.slice a n c]) w') ∧ Below w.heap.size w w' := by
  refine (identity_c (n : Int) w).mono ?_
  rintro e w' ⟨ho, hb⟩
  refine ⟨?_, hb⟩
  rcases ho with ⟨h, -⟩ | ⟨h, -⟩ | ⟨-, -, v, rfl, hv⟩
  · omega
  · omega
  · have hv := hv.rebase (Nat.zero_le _)
    rw [Int.toNat_natCast] at hv
    obtain ⟨a, c, rfl⟩ := hv.lit
    rw [idG_len] at hv ⊢
    exact ⟨a, c, rfl, hv, by rw [idG_cols h1]; exact tab_rect _ _ _, ⟨by rw [idG_len]; omega, by rw [idG_cols h1]; omega, by rw [idG_len]; omega, by rw [idG_cols h1]; omega⟩, idG_bd1 n⟩
set_option maxRecDepth 100000 in
set_option maxHeartbeats 8000000 in
theorem unit_c {K m : Nat} {g : Grid} {v u : Value} {d : Int} {w : World} (h : Mt K g v w) (hu : IsInt w u d) (bd : Bd m d) (hm : m ≤ 17179869184) (he : g = scaleG (idG g.length) d) :
    Calls Tryz.prog 62 #[v, u] w fun e w' => e = .returned (.bool true) ∧ Below w.heap.size w w' := by
  have HM := Lib.hid h
  have HU := Lib.hid hu
  have HE := Lib.hid he
  obtain ⟨ga, gc, rfl⟩ := h.m.lit
  obtain ⟨nu, au, cu, lu, rfl, -⟩ := hu
  obtain ⟨n, hnE⟩ : ∃ n, g.length = n := ⟨_, rfl⟩
  have HN := Lib.hid hnE
  have hn1 : 1 ≤ n := by have := h.sz.1; omega
  have hn2 : n ≤ 16 := by have := h.sz.2.2.1; omega
  obtain ⟨ln, hln⟩ : ∃ n, lu.length = n := ⟨_, rfl⟩
  unfold iv at *
  rw [hnE] at HM HE ⊢
  rw [hln] at HU ⊢
  clear he h hnE hln
  have hB := Below.refl w.heap.size w
  go_enter Tryz.func62, Tryz.ntmps62
  go_wp2_with fail
  (with_reducible refine (rowsM_c _ _ _ _).mono ?_)
  rintro e w1 ⟨rfl, hb1⟩
  have m0 : w1.cell? ⟨w.heap.size, 0, none⟩ = some (.slice ga n gc) := bkc hb1
  have zm0 := cell_lt m0
  have d0 : w1.cell? ⟨w.heap.size + 1, 0, none⟩ = some (.bool nu) := bkc hb1
  have zd0 := cell_lt d0
  have d1 : w1.cell? ⟨w.heap.size + 1, 1, none⟩ = some (.slice au ln cu) := bkc hb1
  have hB : Below w.heap.size w w1 := bthen (by repeat (first | exact Below.refl _ _ | exact hB | refine Below.drew ?_ | refine below_drewN ?_ _ | refine bset ?_ (by simp <;> omega) _ | refine bal ?_ _)) hb1
  have hz : w.heap.size ≤ w1.heap.size := hB.size
  go_wp2_with fail
  (with_reducible refine (Mt.ident hn1 hn2).mono ?_)
  rintro e w2 ⟨⟨ia, ic, rfl, hi⟩, hb2⟩
  have m0 : w2.cell? ⟨w.heap.size, 0, none⟩ = some (.slice ga n gc) := bkc hb2
  have zm0 := cell_lt m0
  have d0 : w2.cell? ⟨w.heap.size + 1, 0, none⟩ = some (.bool nu) := bkc hb2
  have zd0 := cell_lt d0
  have d1 : w2.cell? ⟨w.heap.size + 1, 1, none⟩ = some (.slice au ln cu) := bkc hb2
  have hB : Below w.heap.size w w2 := bthen (by repeat (first | exact Below.refl _ _ | exact hB | refine Below.drew ?_ | refine below_drewN ?_ _ | refine bset ?_ (by simp <;> omega) _ | refine bal ?_ _)) hb2
  have hz : w.heap.size ≤ w2.heap.size := hB.size
  have MI := Lib.hid hi
  clear hi hb1 hb2
  have hBw2 := Below.refl w2.heap.size w2
  go_wp2
  refine wp_name fun w3 hW3 => ?_
  have m0 : w3.cell? ⟨w.heap.size, 0, none⟩ = some (.slice ga n gc) := by rw [hW3]; exact (by first | assumption | exact cell_new (by with_reducible first | rfl | (simp; done) | (simp; omega)) rfl | (repeat (first | assumption | exact cell_new (by with_reducible first | rfl | (simp; done) | (simp; omega)) rfl | refine cell_alloc ?_ _ | refine cell_drew ?_ | refine cell_drewN ?_ _ | refine cell_far ?_ (by simp) _ | (refine cell_far ?_ (by simp <;> omega) _))) | simp [go_sem, *])
  have zm0 := cell_lt m0
  have d0 : w3.cell? ⟨w.heap.size + 1, 0, none⟩ = some (.bool nu) := by rw [hW3]; exact (by first | assumption | exact cell_new (by with_reducible first | rfl | (simp; done) | (simp; omega)) rfl | (repeat (first | assumption | exact cell_new (by with_reducible first | rfl | (simp; done) | (simp; omega)) rfl | refine cell_alloc ?_ _ | refine cell_drew ?_ | refine cell_drewN ?_ _ | refine cell_far ?_ (by simp) _ | (refine cell_far ?_ (by simp <;> omega) _))) | simp [go_sem, *])
  have zd0 := cell_lt d0
  have d1 : w3.cell? ⟨w.heap.size + 1, 1, none⟩ = some (.slice au ln cu) := by rw [hW3]; exact (by first | assumption | exact cell_new (by with_reducible first | rfl | (simp; done) | (simp; omega)) rfl | (repeat (first | assumption | exact cell_new (by with_reducible first | rfl | (simp; done) | (simp; omega)) rfl | refine cell_alloc ?_ _ | refine cell_drew ?_ | refine cell_drewN ?_ _ | refine cell_far ?_ (by simp) _ | (refine cell_far ?_ (by simp <;> omega) _))) | simp [go_sem, *])
  have i0 : w3.cell? ⟨w2.heap.size, 0, none⟩ = some (.slice ia n ic) := by rw [hW3]; exact (by first | assumption | exact cell_new (by with_reducible first | rfl | (simp; done) | (simp; omega)) rfl | (repeat (first | assumption | exact cell_new (by with_reducible first | rfl | (simp; done) | (simp; omega)) rfl | refine cell_alloc ?_ _ | refine cell_drew ?_ | refine cell_drewN ?_ _ | refine cell_far ?_ (by simp) _ | (refine cell_far ?_ (by simp <;> omega) _))) | simp [go_sem, *])
  have zi0 := cell_lt i0
  have hB : Below w.heap.size w w3 := by rw [hW3]; repeat (first | exact Below.refl _ _ | exact hB | refine Below.drew ?_ | refine below_drewN ?_ _ | refine bset ?_ (by simp <;> omega) _ | refine bal ?_ _)
  have hk : Below w2.heap.size w2 w3 := by rw [hW3]; repeat (first | exact Below.refl _ _ | exact hBw2 | refine Below.drew ?_ | refine below_drewN ?_ _ | refine bset ?_ (by simp <;> omega) _ | refine bal ?_ _)
  have hz : w.heap.size ≤ w3.heap.size := hB.size
  clear hW3
  have MI3 := Lib.hid (MI.out.keep hk)
  have SC := Lib.hid (fun V (q : Below w3.heap.size w3 V) => Mt.scale (MI3.out.keep q) (HU.out.keep (bthen hB q)) bd (by decide) hm (idG_len n))
  have HS := Lib.hid (show ∀ V, Below w3.heap.size w3 V → V.cell? ⟨w.heap.size, 0, none⟩ = some (.slice ga n gc) ∧ V.cell? ⟨w.heap.size + 1, 0, none⟩ = some (.bool nu) ∧ V.cell? ⟨w.heap.size + 1, 1, none⟩ = some (.slice au ln cu) ∧ V.cell? ⟨w2.heap.size, 0, none⟩ = some (.slice ia n ic) from fun V q => ⟨bkeep q m0, bkeep q d0, bkeep q d1, bkeep q i0⟩)
  have hBw := Below.refl w3.heap.size w3
  clear hk hBw2 MI bd
  go_region_held3 (fun V => V.cell? ⟨w.heap.size, 0, none⟩ = some (.slice ga n gc) ∧ V.cell? ⟨w.heap.size + 1, 0, none⟩ = some (.bool nu) ∧ V.cell? ⟨w.heap.size + 1, 1, none⟩ = some (.slice au ln cu) ∧ V.cell? ⟨w2.heap.size, 0, none⟩ = some (.slice ia n ic))
    (first | (refine HS.out _ ?_; (repeat (first | exact Below.refl _ _ | exact hBw | refine Below.drew ?_ | refine below_drewN ?_ _ | refine bset ?_ (by simp <;> omega) _ | refine bal ?_ _)); done) | fail)
    (first
    | (go_at_call 40; (with_reducible refine (SC.out _ ?_).mono ?_); (repeat (first | exact Below.refl _ _ | exact hBw | refine Below.drew ?_ | refine below_drewN ?_ _ | refine bset ?_ (by simp <;> omega) _ | refine bal ?_ _)); rintro e w4 ⟨⟨ua, uc, rfl, hm4⟩, hb4⟩; (have hBd : Below w3.heap.size w3 w4 := bthen (by repeat (first | exact Below.refl _ _ | exact hBw | refine Below.drew ?_ | refine below_drewN ?_ _ | refine bset ?_ (by simp <;> omega) _ | refine bal ?_ _)) hb4; clear hBw; have hBw := hBd; clear hBd); have MU := Lib.hid hm4; have HM4 := Lib.hid (HM.out.keep (bthen hB hBw)); have hy4 := Below.refl w4.heap.size w4; clear hm4)
    | (go_at_call 32; (with_reducible refine (Mt.same (HM4.out.keep ?_) (MU.out.keep ?_) HE.out).mono ?_); (repeat (first | exact Below.refl _ _ | exact hy4 | refine Below.drew ?_ | refine below_drewN ?_ _ | refine bset ?_ (by simp <;> omega) _ | refine bal ?_ _)); (repeat (first | exact Below.refl _ _ | exact hy4 | refine Below.drew ?_ | refine below_drewN ?_ _ | refine bset ?_ (by simp <;> omega) _ | refine bal ?_ _)); rintro e w5 ⟨rfl, hb5⟩; (have hBd : Below w3.heap.size w3 w5 := bthen (by repeat (first | exact Below.refl _ _ | exact hBw | refine Below.drew ?_ | refine below_drewN ?_ _ | refine bset ?_ (by simp <;> omega) _ | refine bal ?_ _)) hb5; clear hBw; have hBw := hBd; clear hBd))
    | fail)
  all_goals
    have hBf := bthen hB hBw
    go_wp2
    go_ret
    exact ⟨rfl, by repeat (first | exact Below.refl _ _ | exact hBf | refine Below.drew ?_ | refine below_drewN ?_ _ | refine bset ?_ (by simp <;> omega) _ | refine bal ?_ _)⟩
end Go.Proofs.YthaohpfbengabaaGreatDoor

