/- Texts of this seat, laid together (what the earlier ones leave out): NumT, MwC, MwS, ScG, ScI, ScU. Each opens with its own remark, which says what it proves, and under which conditions. -/
import Derived.Test.YtkejdmdldhlkgaaDoorP01
import Derived.Test.YtkejdmdldhlkgaaDoorP02
import Derived.Test.YtkejdmdldhlkgaaDoorP03
import Derived.Test.YtkejdmdldhlkgaaDoorP04
import Derived.Test.YtkejdmdldhlkgaaDoorP05
import Derived.Test.YtkejdmdldhlkgaaDoorP06
import Derived.Test.YtkejdmdldhlkgaaDoorP07
import Derived.Test.YtkejdmdldhlkgaaDoorP08
import Derived.Test.YtkejdmdldhlkgaaDoorP09
import Derived.Test.YtkejdmdldhlkgaaDoorP10
import Derived.Test.YtkejdmdldhlkgaaDoorP11
import Derived.Test.YtkejdmdldhlkgaaDoorP12
import Derived.Test.YtkejdmdldhlkgaaDoorP13
import Derived.Test.YtkejdmdldhlkgaaDoorP14
import Derived.Test.YtkejdmdldhlkgaaDoorP15
import Derived.Test.YtkejdmdldhlkgaaDoorP16
import Derived.Test.YtkejdmdldhlkgaaDoorP17
import Derived.Test.YtkejdmdldhlkgaaDoorP18
import Derived.Test.YtkejdmdldhlkgaaDoorP19
import Derived.Test.YtkejdmdldhlkgaaDoorP20
import Derived.Test.YtkejdmdldhlkgaaDoorP21
import Derived.Test.YtkejdmdldhlkgaaDoorP22
import Derived.Test.YtkejdmdldhlkgaaDoorP23
import Derived.Test.YtkejdmdldhlkgaaDoorP24
import Derived.Test.YtkejdmdldhlkgaaDoorP25
import Derived.Test.YtkejdmdldhlkgaaDoorU01
import Derived.Test.YtkejdmdldhlkgaaDoorU02
import Derived.WalkKit
import Derived.ProofKit
import Derived.OpenShut
import Derived.Deep.QuietTactic
import Derived.BigQuiet
import Derived.Outline
import Derived.Lib.Hide
import Derived.WalkSmall
import Derived.WalkSpells
import Derived.WalkLawsBesides
import Derived.Deep.RegionWith
import Derived.Deep.RegionHeld3
import Derived.Laws.CopyOwn
import Derived.Shelf.Small.Bits
import Derived.Laws.AppendOwn
import Derived.Deep.AppendLies
import Derived.Deep.DrawnRows
import Derived.StillTail
import Derived.Deep.Quiet
import Derived.OneCell
import Derived.Laws.BitsAllLaws
import Derived.Shelf.Spec.TrailingZeros
import Derived.Shelf.Strings.Builder1
import Derived.Shelf.Strings.Trim
import Derived.Deep.Cut
import Derived.Deep.DeepCutAuto
import Derived.ArgAppend
import Derived.Deep.DeepFit
import Derived.Shelf.Abstract
import Derived.Laws.EntriesVeiled
import Derived.RegionTactic
import Derived.ChangeAlike
import Derived.Laws.OwnMore
import Derived.Deep.Onto
import Derived.Deep.RegionLaw
import Derived.Deep.LoopGhost
import Derived.RangeFuncNested
import Derived.RangeFuncBound
import Derived.RangeFuncCalls
import Derived.RangeFuncLeaves
import Derived.Shelf.RegionOpen
import Derived.OwnWalkIn
import Derived.TacticsInMore
import Derived.LoopNIn
import Derived.LoopIn
import Derived.Laws.CopyRow
import Derived.Laws.Rows
import Derived.Laws.Tables
import Derived.StillTailTactics
import Derived.Lib.AppendZeros
import Derived.Laws.IdiomStrings
import Derived.Laws.BytesArg
import Derived.Laws.RangeString
import Derived.Lib.OthersKept
import Derived.Maps.AppendAt
import Derived.Shelf.Strings.OnBuilder
import Derived.Lib.SmallJoins
import Derived.Deep.Slices
import Derived.Deep.Matrix
import Derived.Deep.Fields
import Derived.ChangeSame
import Derived.DataShut
import Derived.SizedLaws
set_option linter.unusedVariables false
set_option linter.unusedSimpArgs false
/- Plain: the reference's sums, differences, binary digits. -/
namespace Go.Proofs.YtkejdmdldhlkgaaDoor.NumR
open Num (Nrm bitN bitN_half trimL)
theorem bitN_snoc {l : List Nat} {x : Nat} (hl : Limbs l) (hx : x ≠ 0) : bitN (val (l ++ [x])) = 16 * l.length + bitN x := by
  have h1 := val_lt hl
  rw [val_append]
  simp only [val, Nat.mul_zero, Nat.add_zero]
  rw [BB_pow] at *
  have hp : 0 < 2 ^ (16 * l.length) := Nat.pow_pos (by omega)
  have h2 : 2 ^ (16 * l.length) * 1 ≤ 2 ^ (16 * l.length) * x := Nat.mul_le_mul_left _ (by omega)
  unfold bitN
  rw [if_neg (by omega), if_neg hx]
  have e : (val l + 2 ^ (16 * l.length) * x).log2 = 16 * l.length + x.log2 := by
    rw [Nat.log2_eq_iff (by omega)]
    have k1 := Nat.log2_self_le hx
    have k2 := @Nat.lt_log2_self x
    constructor
    · rw [Nat.pow_add]
      have := Nat.mul_le_mul_left (2 ^ (16 * l.length)) k1
      omega
    · rw [Nat.add_assoc, Nat.pow_add]
      have := Nat.mul_le_mul_left (2 ^ (16 * l.length)) (show x + 1 ≤ 2 ^ (x.log2 + 1) from k2)
      rw [Nat.mul_add] at this
      omega
  omega
theorem bitN_nrm {l : List Nat} {k : Nat} (hl : Limbs l) (hn : Nrm l) (hk : l.length = k + 1) : bitN (val l) = 16 * k + bitN (l.getD k 0) := by
  obtain ⟨m, x, rfl⟩ : ∃ m x, l = m ++ [x] := ⟨l.dropLast, l.getLast (by intro e; subst e; simp at hk), (List.dropLast_concat_getLast _).symm⟩
  simp at hk
  have hx := hn (by simp)
  simp at hx
  rw [bitN_snoc (fun y hy => hl y (by simp [hy])) hx, hk]
  congr 2
  simp [← hk]
end Go.Proofs.YtkejdmdldhlkgaaDoor.NumR

/- matrix's laws: same, line, is, comes; the matrix's Row; the reference's Cols. -/
namespace Go.Proofs.YtkejdmdldhlkgaaDoor
open Num
open Go.ChangeShapes Go.WideShapes Go.ChangeAt Go.RowKit
attribute [local go_sem ↓] Go.wp_at_zero Go.wp_at_succ
set_option maxRecDepth 100000 in
set_option maxHeartbeats 4000000 in
theorem rowM_c (v : Value) (g : Grid) (i : Nat) (w : World) (hv : IsM 0 w v g) (hi : i < g.length) (hn : g.length ≤ 65536) (hl : (g.getD i []).length ≤ 1099511627775) :
    Calls Tryd.prog 15 #[v, .int .i64 (i : Nat)] w fun e w' => (∃ u, e = .returned (.tuple #[u, .int .i64 0]) ∧ RowO IsInt 37 w.heap.size w' u (g.getD i [])) ∧ Below w.heap.size w w' := by
  have HV := Lib.hid hv
  obtain ⟨a, c, rfl, -⟩ := hv
  obtain ⟨gb, go, ra, rc, rfl, hu, hp⟩ := HV.out.rowAt hi
  have HP := Lib.hid hp
  obtain ⟨n, hnE⟩ : ∃ n, g.length = n := ⟨_, rfl⟩
  rw [hnE] at hi hn HV ⊢
  obtain ⟨row, hrow⟩ : ∃ r, g.getD i [] = r := ⟨_, rfl⟩
  rw [hrow] at hu HP hl ⊢
  have rc1 := fun V => rowsM_c (some ⟨gb, go, none⟩) n c V
  have kc := fun W (q : Below w.heap.size w W) => cloneRow_c 0 (.slice ra row.length rc) row W (HP.out.keep lims_int q) (by omega)
  have h1 : ¬ ((i : Int) < 0) := by omega
  have h2 : ¬ ((n : Int) ≤ (i : Int)) := by omega
  have h3 : (i : Int) < (n : Int) := by omega
  have zu := cell_lt hu
  clear hnE hrow hp HV
  have hB := Below.refl w.heap.size w
  go_enter Tryd.func15, Tryd.ntmps15
  go_wp2_with fail
  refine (rc1 _).mono ?_
  rintro e w1 ⟨rfl, hb1⟩
  have m0 : w1.cell? ⟨w.heap.size, 0, none⟩ = some (.slice (some ⟨gb, go, none⟩) n c) := bkc hb1
  have zm0 := cell_lt m0
  have hu : w1.cell? ⟨gb, go + i, none⟩ = some (.slice ra row.length rc) := bkc hb1
  have zhu := cell_lt hu
  have hB : Below w.heap.size w w1 := bthen belA hb1
  have hz : w.heap.size ≤ w1.heap.size := hB.size
  go_wp2_with fail
  refine (kc _ belA).mono ?_
  rintro e w2 ⟨⟨v2, rfl, hv2⟩, hb2⟩
  have hB2 : Below w.heap.size w w2 := bthen belA hb2
  have HV2 := Lib.hid (hv2.rebase (show w.heap.size ≤ _ from (show Below w.heap.size w _ by repeat (first | exact Below.refl _ _ | exact hB | refine Below.drew ?_ | refine below_drewN ?_ _ | refine bset ?_ (by simp <;> omega) _ | refine bal ?_ _)).size))
  obtain ⟨a2, c2, rfl⟩ := hv2.ex
  clear rc1 kc hv2
  go_wp2
  refine bodyPost_ret (v := .tuple #[.slice a2 row.length c2, .int .i64 0]) (by simp [results, Tryd.results15, go_sem, *]) rfl ⟨⟨_, rfl, HV2.out⟩, hB2⟩
end Go.Proofs.YtkejdmdldhlkgaaDoor

/- matrices that New makes: what is done to them, in one form. -/
namespace Go.Proofs.YtkejdmdldhlkgaaDoor
open Num
open Go.ChangeShapes Go.WideShapes Go.ChangeAt Go.RowKit
theorem cmpI_self (x : Int) : cmpI x x = 0 := by unfold cmpI; rw [if_neg (by omega), if_pos rfl]
theorem cmp_same {vx vy : Value} {x : Int} {w : World} (hx : IsInt w vx x) (hy : IsInt w vy x) : Calls Tryd.prog 17 #[vx, vy] w fun e w' => e = .returned (.int .i64 0) ∧ Below w.heap.size w w' := by
  have h := cmp_c vx vy x x w hx hy
  rw [cmpI_self] at h
  exact h
end Go.Proofs.YtkejdmdldhlkgaaDoor

/- scheme: Inverse. -/
namespace Go.Proofs.YtkejdmdldhlkgaaDoor
open Pt
open Num
open Go.ChangeShapes Go.WideShapes Go.ChangeAt Go.RowKit
attribute [local go_sem ↓] Go.wp_at_zero Go.wp_at_succ
theorem Mt.invB {K n : Nat} {g : Grid} {v : Value} {w : World} (h : Mt K g v w) (hs : g.length = cols g) (hK1 : 1 ≤ K) (hK : kb K 16 ≤ 4294967296) (hd : Det.detE g.length (gat g) ≠ 0) (hn : g.length = n) :
    Calls Tryd.prog 36 #[v] w fun e w' => (∃ a c nb ua ul uc, e = .returned (.tuple #[.agg #[.slice a n c], .agg #[.bool nb, .slice ua ul uc], .int .i64 0]) ∧ Mt (kb K 16) (invG g) (.agg #[.slice a n c]) w' ∧ IsM w.heap.size w' (.agg #[.slice a n c]) (invG g) ∧ IsInt w' (.agg #[.bool nb, .slice ua ul uc]) (invD g)) ∧ Below w.heap.size w w' := by
  have s := h.sz
  refine (invM_c v g K w h.m h.rc (by omega) hK1 h.bd (Nat.le_trans (kb_mono K s.2.2.1) hK)).mono ?_
  rintro e w' ⟨ho, hb⟩
  refine ⟨?_, hb⟩
  rcases ho with ⟨-, -, x, u, rfl, hx, hu⟩ | ⟨-, h2, -⟩ | ⟨h2, -⟩
  · have hx0 := hx
    have hx := hx.rebase (Nat.zero_le _)
    obtain ⟨a, c, rfl⟩ := hx.lit
    obtain ⟨nb, ua, ul, uc, rfl⟩ := hu.lit
    rw [inv_len, hn] at hx hx0 ⊢
    exact ⟨a, c, nb, ua, ul, uc, rfl, inv_mt (n := n) h hK1 hd hx, hx0, hu⟩
  · exact absurd h2 hd
  · have : sqB g = true := by unfold sqB; simp; exact ⟨s.1, hs⟩
    rw [this] at h2; cases h2
theorem pwG_det (n : Nat) (f : Nat → Int × Int) : Det.detE n (gat (pwG n n f)) = Det.far (fun t => (f t).1) (fun t => (f t).2) n := by
  rw [← Det.van]
  refine Det.detE_congr fun i j hi hj => ?_
  rw [show gat (pwG n n f) i j = powF (f i).1 (f i).2 n j from tab_gat hi hj]
  rfl
theorem pwG_sq {n : Nat} (f : Nat → Int × Int) (h : 0 < n) : (pwG n n f).length = cols (pwG n n f) := by rw [pwG_len, pwG_cols f h]
theorem Sch.n1 {k1 k2 : Int} {n : Nat} {f : Nat → Int × Int} (h : Sch k1 k2 n f) : 1 ≤ n := by have := h.cnt; have := h.len; unfold Cnt at *; omega
theorem Sch.n15 {k1 k2 : Int} {n : Nat} {f : Nat → Int × Int} (h : Sch k1 k2 n f) : n ≤ 15 := by have := h.cnt; have := h.len; unfold Cnt at *; omega
theorem Sch.det {k1 k2 : Int} {n : Nat} {f : Nat → Int × Int} (h : Sch k1 k2 n f) : Det.detE (pwG n n f).length (gat (pwG n n f)) ≠ 0 := by
  rw [pwG_len, pwG_det]; exact h.far
set_option maxRecDepth 100000 in
set_option maxHeartbeats 4000000 in
theorem invS_c (b : Nat) (k1 k2 : Int) (n : Nat) (f : Nat → Int × Int) (w : World) (h : SchAt w b k1 k2 n f) (hs : Sch k1 k2 n f) :
    Calls Tryd.prog 19 #[.pointer (some ⟨b, 0, none⟩)] w fun e w' => (∃ a c nb ua ul uc, e = .returned (.tuple #[.agg #[.slice a n c], .agg #[.bool nb, .slice ua ul uc]]) ∧ Mt (kb 200 16) (invG (pwG n n f)) (.agg #[.slice a n c]) w' ∧ IsInt w' (.agg #[.bool nb, .slice ua ul uc]) (invD (pwG n n f))) ∧ Below w.heap.size w w' := by
  have FC := Lib.hid (fun W (q : Below w.heap.size w W) => fullS_c b k1 k2 n f W (h.keep q) hs.all hs.n1 (Nat.le_trans hs.n15 (by decide)))
  have HS := Lib.hid hs
  have zc := cell_lt h.c0
  clear h hs
  have hB := Below.refl w.heap.size w
  go_enter Tryd.func19, Tryd.ntmps19
  go_wp2_with fail
  (with_reducible refine (FC.out _ ?_).mono ?_); (repeat (first | exact Below.refl _ _ | exact hB | refine Below.drew ?_ | refine below_drewN ?_ _ | refine bset ?_ (by simp <;> omega) _ | refine bal ?_ _))
  rintro e w1 ⟨⟨fa, fc, rfl, hf⟩, hb1⟩
  have hB1 : Below w.heap.size w w1 := bthen belA hb1
  have r0 : w1.cell? ⟨w.heap.size, 0, none⟩ = some (.slice none 0 0) := bkeep hb1 (by simp [go_sem])
  have r0f : w1.frozen? ⟨w.heap.size, 0, none⟩ = false := bkeepf hb1 (v := .slice none 0 0) (by simp [go_sem]) (by simp [go_sem])
  have s0 : w1.cell? ⟨w.heap.size + 1, 0, none⟩ = some (.bool false) := bkeep hb1 (by simp [go_sem])
  have s1 : w1.cell? ⟨w.heap.size + 1, 1, none⟩ = some (.slice none 0 0) := bkeep hb1 (by simp [go_sem])
  have s0f : w1.frozen? ⟨w.heap.size + 1, 0, none⟩ = false := bkeepf hb1 (v := .bool false) (by simp [go_sem]) (by simp [go_sem])
  have s1f : w1.frozen? ⟨w.heap.size + 1, 1, none⟩ = false := bkeepf hb1 (v := .slice none 0 0) (by simp [go_sem]) (by simp [go_sem])
  have HR := Lib.hid (And.intro r0 (And.intro r0f (And.intro s0 (And.intro s1 (And.intro s0f s1f)))))
  have zs := cell_lt s0
  have HZ := Lib.hid zs
  have IC := Lib.hid (fun W (q : Below w1.heap.size w1 W) => Mt.invB (n := n) (hf.keep q) (pwG_sq f HS.out.n1) (by decide) (by decide) HS.out.det (pwG_len n n f))
  have hBw := Below.refl w1.heap.size w1
  clear FC hb1 hf hB r0 r0f s0 s1 s0f s1f
  go_wp2_with fail
  (with_reducible refine (IC.out _ ?_).mono ?_); (repeat (first | exact Below.refl _ _ | exact hBw | refine Below.drew ?_ | refine below_drewN ?_ _ | refine bset ?_ (by simp <;> omega) _ | refine bal ?_ _))
  rintro e w2 ⟨⟨va, vc, nb, ua, ul, uc, rfl, hm, hmb, hi⟩, hb2⟩
  have hk2 : Below w1.heap.size w1 w2 := bthen belA hb2
  have hmb2 := hmb.rebase (show w1.heap.size ≤ _ from (show Below w1.heap.size w1 _ by repeat (first | exact Below.refl _ _ | exact hBw | refine Below.drew ?_ | refine below_drewN ?_ _ | refine bset ?_ (by simp <;> omega) _ | refine bal ?_ _)).size)
  have HM := Lib.hid (And.intro hm (And.intro hmb2 hi))
  have r0 := bkeep hk2 HR.out.1
  have r0f := bkeepf hk2 HR.out.1 HR.out.2.1
  have s0 := bkeep hk2 HR.out.2.2.1
  have s1 := bkeep hk2 HR.out.2.2.2.1
  have s0f := bkeepf hk2 HR.out.2.2.1 HR.out.2.2.2.2.1
  have s1f := bkeepf hk2 HR.out.2.2.2.1 HR.out.2.2.2.2.2
  have hB2 := bthen hB1 hk2
  have zr := cell_lt r0
  have zs2 := cell_lt s0
  clear IC hb2 hm hmb hmb2 hi hBw hk2 HR
  go_wp2
  refine wp_name fun w3 hW3 => ?_
  have hBw := Below.refl w2.heap.size w2
  have hk3 : Below w2.heap.size w2 w3 := by rw [hW3]; repeat (first | exact Below.refl _ _ | exact hBw | refine Below.drew ?_ | refine below_drewN ?_ _ | refine bset ?_ (by simp <;> omega) _ | refine bal ?_ _)
  have m0 : w3.cell? ⟨w2.heap.size, 0, none⟩ = some (.slice va n vc) := by rw [hW3]; simp [go_sem]
  have i0 : w3.cell? ⟨w2.heap.size + 1, 0, none⟩ = some (.bool nb) := by rw [hW3]; simp [go_sem]
  have i1 : w3.cell? ⟨w2.heap.size + 1, 1, none⟩ = some (.slice ua ul uc) := by rw [hW3]; simp [go_sem]
  clear hW3 hBw
  replace r0f := bkeepf hk3 r0 r0f
  replace s0f := bkeepf hk3 s0 s0f
  replace s1f := bkeepf hk3 s1 s1f
  replace r0 := bkeep hk3 r0
  replace s0 := bkeep hk3 s0
  replace s1 := bkeep hk3 s1
  have zm := cell_lt m0
  have zi := cell_lt i0
  have hB3 := bthen hB2 hk3
  have n1 : ¬ w2.heap.size = w.heap.size := by omega
  have n2 : ¬ w2.heap.size = w.heap.size + 1 := by omega
  have n3 : ¬ w2.heap.size + 1 = w.heap.size := by omega
  have HM3 := Lib.hid (And.intro (HM.out.1.keep hk3) (And.intro (HM.out.2.1.keep hk3) (HM.out.2.2.keep hk3)))
  have HL := Lib.hid (((Lim.refl w3).slice r0 (.slice va n vc)))
  have HZ2 := Lib.hid HZ.out
  clear hk3 HM
  go_region
  all_goals
    have hL1 := (Lim.refl w3).slice r0 (.slice va n vc)
    have s0' := cell_far s0 (p := ⟨w.heap.size, 0, none⟩) (addr_ne (by omega)) (.slice va n vc)
    have s1' := cell_far s1 (p := ⟨w.heap.size, 0, none⟩) (addr_ne (by omega)) (.slice va n vc)
    have hL2 := hL1.trans (Lim.set2 s0' s1' (.bool nb) (.slice ua ul uc))
    have hO : Out (fun q => q < w1.heap.size) w3 (((w3.setCell ⟨w.heap.size, 0, none⟩ (.slice va n vc)).setCell ⟨w.heap.size + 1, 0, none⟩ (.bool nb)).setCell ⟨w.heap.size + 1, 1, none⟩ (.slice ua ul uc)).drew := (((((Out.refl _ w3).set (p := ⟨w.heap.size, 0, none⟩) (fun _ => by show w.heap.size < w1.heap.size; have := HZ2.out; omega) _).set2 (g := w.heap.size + 1) (o := 0) (fun _ => HZ2.out) _ _))).drew
    have HMF := Lib.hid (show Mt (kb 200 16) (invG (pwG n n f)) (.agg #[.slice va n vc]) (((w3.setCell ⟨w.heap.size, 0, none⟩ (.slice va n vc)).setCell ⟨w.heap.size + 1, 0, none⟩ (.bool nb)).setCell ⟨w.heap.size + 1, 1, none⟩ (.slice ua ul uc)).drew from ⟨(HM3.out.2.1.out hO (fun q hq => Nat.not_lt.2 hq) hL2).rebase (Nat.zero_le _), HM3.out.1.rc, HM3.out.1.sz, HM3.out.1.bd⟩)
    have HIF := Lib.hid (HM3.out.2.2.lim hL2)
    have hBF := bset (bset (bset hB3 (p := ⟨w.heap.size, 0, none⟩) (Nat.le_refl _) (.slice va n vc)) (p := ⟨w.heap.size + 1, 0, none⟩) (by show w.heap.size ≤ w.heap.size + 1; omega) (.bool nb)) (p := ⟨w.heap.size + 1, 1, none⟩) (by show w.heap.size ≤ w.heap.size + 1; omega) (.slice ua ul uc)
    clear hO hL1 hL2 HM3 HL
    go_wp2
    refine bodyPost_ret (v := .tuple #[.agg #[.slice va n vc], .agg #[.bool nb, .slice ua ul uc]]) (by simp [results, Tryd.results19, go_sem, *]) rfl ⟨⟨va, vc, nb, ua, ul, uc, rfl, HMF.out, (by first | exact HIF.out | exact HIF.out.lim (Lim.refl _).drew)⟩, ?_⟩
    repeat (first | exact Below.refl _ _ | exact hBF | refine Below.drew ?_ | refine below_drewN ?_ _ | refine bset ?_ (by simp <;> omega) _ | refine bal ?_ _)
end Go.Proofs.YtkejdmdldhlkgaaDoor

/- scheme's laws: works answers true. -/
namespace Go.Proofs.YtkejdmdldhlkgaaDoor
open Pt
open Num
open Go.ChangeShapes Go.WideShapes Go.ChangeAt Go.RowKit
attribute [local go_sem ↓] Go.wp_at_zero Go.wp_at_succ
def wL : List Int := [0, 1, 1, 1, -1, 1]
theorem nat3 {i : Nat} (h : i < 3) : i = 0 ∨ i = 1 ∨ i = 2 := by omega
theorem wL_sch : Sch 2 2 3 (evF wL) := by
  refine ⟨by unfold Cnt; decide, fun i hi => ?_, by decide, fun i hi => ?_, fun j hj i hi => ?_⟩
  · rcases nat3 hi with rfl | rfl | rfl <;> decide
  · rcases nat3 hi with rfl | rfl | rfl <;> decide
  · rcases nat3 hj with rfl | rfl | rfl
    · omega
    · obtain rfl : i = 0 := by omega
      decide
    · rcases (show i = 0 ∨ i = 1 by omega) with rfl | rfl <;> decide
theorem wL_full : pwG 3 3 (evF wL) = [[1, 0, 0], [1, 1, 1], [1, -1, 1]] := by kernel_rfl
theorem wL_inv : invG [[1, 0, 0], [1, 1, 1], [1, -1, 1]] = [[2, 0, 0], [0, 1, -1], [-2, 1, 1]] := by kernel_rfl
theorem wL_invD : invD [[1, 0, 0], [1, 1, 1], [1, -1, 1]] = 2 := by kernel_rfl
theorem wL_txt1 : matTxt [[1, 0, 0], [1, 1, 1], [1, -1, 1]] = [91, 91, 49, 32, 48, 32, 48, 93, 32, 91, 49, 32, 49, 32, 49, 93, 32, 91, 49, 32, 45, 49, 32, 49, 93, 93] := by kernel_rfl
theorem wL_txt2 : matTxt [[2, 0, 0], [0, 1, -1], [-2, 1, 1]] = [91, 91, 50, 32, 48, 32, 48, 93, 32, 91, 48, 32, 49, 32, 45, 49, 93, 32, 91, 45, 50, 32, 49, 32, 49, 93, 93] := by kernel_rfl
theorem wL_txt3 : intTxt 2 = [50] := by kernel_rfl
theorem wL_r1 : ∀ i, i < ([[1, 0, 0], [1, 1, 1], [1, -1, 1]] : Grid).length → (Lib.join ((([[1, 0, 0], [1, 1, 1], [1, -1, 1]] : Grid).getD i []).map intTxt) [32]).length ≤ 140737488355328 := by
  intro i hi
  have e0 : (Lib.join (([1, 0, 0] : List Int).map intTxt) [32]).length = 5 := by kernel_rfl
  have e1 : (Lib.join (([1, 1, 1] : List Int).map intTxt) [32]).length = 5 := by kernel_rfl
  have e2 : (Lib.join (([1, -1, 1] : List Int).map intTxt) [32]).length = 6 := by kernel_rfl
  rcases nat3 hi with rfl | rfl | rfl
  · exact Nat.le_trans (Nat.le_of_eq e0) (by decide)
  · exact Nat.le_trans (Nat.le_of_eq e1) (by decide)
  · exact Nat.le_trans (Nat.le_of_eq e2) (by decide)
theorem wL_m1 : (Lib.join (([[1, 0, 0], [1, 1, 1], [1, -1, 1]] : Grid).map rowTxt) [32]).length ≤ 140737488355328 := by
  have e : (Lib.join (([[1, 0, 0], [1, 1, 1], [1, -1, 1]] : Grid).map rowTxt) [32]).length = 24 := by kernel_rfl
  exact Nat.le_trans (Nat.le_of_eq e) (by decide)
theorem wL_r2 : ∀ i, i < ([[2, 0, 0], [0, 1, -1], [-2, 1, 1]] : Grid).length → (Lib.join ((([[2, 0, 0], [0, 1, -1], [-2, 1, 1]] : Grid).getD i []).map intTxt) [32]).length ≤ 140737488355328 := by
  intro i hi
  have e0 : (Lib.join (([2, 0, 0] : List Int).map intTxt) [32]).length = 5 := by kernel_rfl
  have e1 : (Lib.join (([0, 1, -1] : List Int).map intTxt) [32]).length = 6 := by kernel_rfl
  have e2 : (Lib.join (([-2, 1, 1] : List Int).map intTxt) [32]).length = 6 := by kernel_rfl
  rcases nat3 hi with rfl | rfl | rfl
  · exact Nat.le_trans (Nat.le_of_eq e0) (by decide)
  · exact Nat.le_trans (Nat.le_of_eq e1) (by decide)
  · exact Nat.le_trans (Nat.le_of_eq e2) (by decide)
theorem wL_m2 : (Lib.join (([[2, 0, 0], [0, 1, -1], [-2, 1, 1]] : Grid).map rowTxt) [32]).length ≤ 140737488355328 := by
  have e : (Lib.join (([[2, 0, 0], [0, 1, -1], [-2, 1, 1]] : Grid).map rowTxt) [32]).length = 25 := by kernel_rfl
  exact Nat.le_trans (Nat.le_of_eq e) (by decide)
theorem bdM_of3 {k : Nat} {g : Grid} (h : ∀ r ∈ g, ∀ x ∈ r, x.natAbs < 2 ^ k) : BdM k g := by
  intro i j
  unfold gat
  by_cases hi : i < g.length
  · have e : g.getD i [] = g[i] := by simp [hi]
    rw [e]
    by_cases hj : j < g[i].length
    · have e2 : g[i].getD j 0 = g[i][j] := by simp [hj]
      rw [e2]; exact h _ (List.getElem_mem _) _ (List.getElem_mem _)
    · rw [List.getD_eq_getElem?_getD, List.getElem?_eq_none (by omega)]; exact bd_zero
  · have e : g.getD i [] = [] := by rw [List.getD_eq_getElem?_getD, List.getElem?_eq_none (by omega)]; rfl
    rw [e]; exact bd_zero
theorem wL_b1 : BdM 8 [[1, 0, 0], [1, 1, 1], [1, -1, 1]] := bdM_of3 (by decide)
theorem wL_b2 : BdM 8 [[2, 0, 0], [0, 1, -1], [-2, 1, 1]] := bdM_of3 (by decide)
theorem NewSPost.yes {k1 k2 : Int} {n : Nat} {f : Nat → Int × Int} {w w' : World} {e : Ending} (h : NewSPost k1 k2 n f w e w') (hs : Sch k1 k2 n f) : (∃ b, e = .returned (.tuple #[.pointer (some ⟨b, 0, none⟩), .int .i64 0]) ∧ SchAt w' b k1 k2 n f) ∧ Below w.heap.size w w' := by
  obtain ⟨⟨no, h1, h2, -⟩ | ⟨-, h⟩, hB⟩ := h
  · exact absurd (h1.unique (.inr (.inr ⟨hs, rfl⟩))) h2
  · exact ⟨h, hB⟩
set_option maxRecDepth 100000 in
set_option maxHeartbeats 8000000 in
theorem works7_c (w : World) : Calls Tryd.prog 5 #[] w fun e w' => e = .returned (.bool true) ∧ Below w.heap.size w w' := by
  have hB := Below.refl w.heap.size w
  go_enter Tryd.func5, Tryd.ntmps5
  go_wp2_with fail
  (with_reducible refine (points7_c w.heap.size 0 6 6 3 wL _ rfl (by decide) ?_).mono ?_)
  · intro k hk
    rcases (show k = 0 ∨ k = 1 ∨ k = 2 ∨ k = 3 ∨ k = 4 ∨ k = 5 by omega) with rfl | rfl | rfl | rfl | rfl | rfl <;> exact cell_new rfl rfl
  rintro e w1 ⟨⟨pa, pc, rfl, hp⟩, hb1⟩
  have hB1 : Below w.heap.size w w1 := bthen belA hb1
  have HP := Lib.hid hp
  have NC := Lib.hid (fun W (q : Below w1.heap.size w1 W) => newS_c 2 2 pa 3 pc (evF wL) W (HP.out.keep q) (by decide))
  have hBw := Below.refl w1.heap.size w1
  clear hp hb1 hB
  go_wp2_with fail
  (with_reducible refine (NC.out _ ?_).mono ?_); (repeat (first | exact Below.refl _ _ | exact hBw | refine Below.drew ?_ | refine below_drewN ?_ _ | refine bset ?_ (by simp <;> omega) _ | refine bal ?_ _))
  intro e w2 hN
  obtain ⟨⟨b, rfl, hs⟩, hb2⟩ := hN.yes wL_sch
  have hB2 := bthen hB1 (bthen (show Below w1.heap.size w1 _ by repeat (first | exact Below.refl _ _ | exact hBw | refine Below.drew ?_ | refine below_drewN ?_ _ | refine bset ?_ (by simp <;> omega) _ | refine bal ?_ _)) hb2)
  have HS := Lib.hid hs
  clear hN hb2 hs HP NC hBw hB1
  have ZC := Lib.hid (fun W (q : Below w2.heap.size w2 W) => sizeS_c b 2 2 3 (evF wL) W (HS.out.keep q))
  have IC := Lib.hid (fun W (q : Below w2.heap.size w2 W) => invS_c b 2 2 3 (evF wL) W (HS.out.keep q) wL_sch)
  have FC := Lib.hid (fun W (q : Below w2.heap.size w2 W) => fullS_c b 2 2 3 (evF wL) W (HS.out.keep q) wL_sch.all (by decide) (by decide))
  rw [wL_full] at IC FC
  rw [wL_inv, wL_invD] at IC
  have hBw := Below.refl w2.heap.size w2
  clear HS
  go_wp2_with fail
  (with_reducible refine (ZC.out _ ?_).mono ?_); (repeat (first | exact Below.refl _ _ | exact hBw | refine Below.drew ?_ | refine below_drewN ?_ _ | refine bset ?_ (by simp <;> omega) _ | refine bal ?_ _))
  rintro e w3 ⟨rfl, hb3⟩
  have hk3 : Below w2.heap.size w2 w3 := bthen belA hb3
  clear hb3 hBw ZC
  go_wp2_with fail
  (with_reducible refine (IC.out _ ?_).mono ?_); (repeat (first | exact Below.refl _ _ | exact hk3 | refine Below.drew ?_ | refine below_drewN ?_ _ | refine bset ?_ (by simp <;> omega) _ | refine bal ?_ _))
  rintro e w4 ⟨⟨va, vc, nb, ua, ul, uc, rfl, hm, hi⟩, hb4⟩
  have hk4 : Below w2.heap.size w2 w4 := bthen belA hb4
  have HM := Lib.hid hm
  have HI := Lib.hid hi
  have hBw4 := Below.refl w4.heap.size w4
  clear hb4 hk3 hm hi IC
  go_wp2_with fail
  (with_reducible refine (FC.out _ ?_).mono ?_); (repeat (first | exact Below.refl _ _ | exact hk4 | refine Below.drew ?_ | refine below_drewN ?_ _ | refine bset ?_ (by simp <;> omega) _ | refine bal ?_ _))
  rintro e w5 ⟨⟨fa, fc, rfl, hf⟩, hb5⟩
  have m0 : w5.cell? ⟨w4.heap.size, 0, none⟩ = some (.slice va 3 vc) := bkeep hb5 (by simp [go_sem])
  have i0 : w5.cell? ⟨w4.heap.size + 1, 0, none⟩ = some (.bool nb) := bkeep hb5 (by simp [go_sem])
  have i1 : w5.cell? ⟨w4.heap.size + 1, 1, none⟩ = some (.slice ua ul uc) := bkeep hb5 (by simp [go_sem])
  have hk45 : Below w4.heap.size w4 w5 := bthen belA hb5
  have hB5 := bthen hB2 (bthen hk4 hk45)
  have HM5 := Lib.hid (HM.out.keep hk45)
  have HI5 := Lib.hid (HI.out.keep hk45)
  have HF := Lib.hid hf
  have zm := cell_lt m0
  have zi := cell_lt i0
  have hBw := Below.refl w5.heap.size w5
  clear hb5 hf hk45 hk4 hBw4 HM HI FC hB2
  go_wp2_with fail
  (with_reducible refine (matText_c _ [[1, 0, 0], [1, 1, 1], [1, -1, 1]] 8 _ (HF.out.m.keep ?_) (by decide) (by decide) wL_b1 (by decide) wL_r1 wL_m1).mono ?_); (repeat (first | exact Below.refl _ _ | exact hBw | refine Below.drew ?_ | refine below_drewN ?_ _ | refine bset ?_ (by simp <;> omega) _ | refine bal ?_ _))
  rw [wL_txt1]
  rintro e w6 ⟨rfl, hb6⟩
  have hk6 : Below w5.heap.size w5 w6 := bthen belA hb6
  replace m0 := bkeep hk6 m0
  replace i0 := bkeep hk6 i0
  replace i1 := bkeep hk6 i1
  replace zm := cell_lt m0
  replace zi := cell_lt i0
  clear hb6 hBw HF
  go_wp2_with fail
  (with_reducible refine (matText_c _ [[2, 0, 0], [0, 1, -1], [-2, 1, 1]] 8 _ (HM5.out.m.keep ?_) (by decide) (by decide) wL_b2 (by decide) wL_r2 wL_m2).mono ?_); (repeat (first | exact Below.refl _ _ | exact hk6 | refine Below.drew ?_ | refine below_drewN ?_ _ | refine bset ?_ (by simp <;> omega) _ | refine bal ?_ _))
  rw [wL_txt2]
  rintro e w7 ⟨rfl, hb7⟩
  have hk7 : Below w5.heap.size w5 w7 := bthen belA hb7
  have hk67 : Below w6.heap.size w6 w7 := bthen (by have hq := Below.refl w6.heap.size w6; repeat (first | exact Below.refl _ _ | exact hq | refine Below.drew ?_ | refine below_drewN ?_ _ | refine bset ?_ (by simp <;> omega) _ | refine bal ?_ _)) hb7
  replace i0 := bkeep hk67 i0
  replace i1 := bkeep hk67 i1
  replace zi := cell_lt i0
  clear hb7 hk6 hk67 HM5 m0 zm
  go_wp2_with fail
  (with_reducible refine (intText_c _ 2 8 _ (HI5.out.keep ?_) (by unfold Bd; decide) (by decide)).mono ?_); (repeat (first | exact Below.refl _ _ | exact hk7 | refine Below.drew ?_ | refine below_drewN ?_ _ | refine bset ?_ (by simp <;> omega) _ | refine bal ?_ _))
  rw [wL_txt3]
  rintro e w8 ⟨rfl, hb8⟩
  have hk8 : Below w5.heap.size w5 w8 := bthen belA hb8
  have hBf := bthen hB5 hk8
  clear HI5 i0 i1 zi
  go_wp2
  go_ret
  exact ⟨rfl, by repeat (first | exact Below.refl _ _ | exact hBf | refine Below.drew ?_ | refine below_drewN ?_ _ | refine bset ?_ (by simp <;> omega) _ | refine bal ?_ _)⟩
end Go.Proofs.YtkejdmdldhlkgaaDoor

/- a point times a number, in memory and plain; rows of the matrix of powers. -/
namespace Go.Proofs.YtkejdmdldhlkgaaDoor
open Pt
open Num
open Go.ChangeShapes Go.WideShapes Go.ChangeAt Go.RowKit
theorem pts_set {w : World} {b n i : Nat} {f : Nat → Int × Int} (h : PtsIn w b 0 n f) (hi : i < n) (c : Int) : PtsIn ((w.setCell ⟨b, i * 2, none⟩ (.int .i64 (c * (f i).1))).setCell ⟨b, i * 2 + 1, none⟩ (.int .i64 (c * (f i).2))) b 0 n (timesF f i c) := fun k hk => by
  obtain ⟨h0, h1⟩ := h k hk
  obtain ⟨g0, g1⟩ := h i hi
  rw [Nat.zero_add] at *
  unfold timesF
  by_cases e : k = i
  · subst e
    rw [if_pos rfl]
    exact ⟨cell_far (cell_here h0 _) (fun e => by have := congrArg Addr.off e; simp at this) _, cell_here (cell_far h1 (fun e => by have := congrArg Addr.off e; simp at this) _) _⟩
  · rw [if_neg e]
    exact ⟨cell_far (cell_far h0 (fun e2 => by have := congrArg Addr.off e2; simp at this; omega) _) (fun e2 => by have := congrArg Addr.off e2; simp at this; omega) _, cell_far (cell_far h1 (fun e2 => by have := congrArg Addr.off e2; simp at this; omega) _) (fun e2 => by have := congrArg Addr.off e2; simp at this; omega) _⟩
theorem rowF_c {n : Nat} {f : Nat → Int × Int} {K r : Nat} {a : Option Addr} {c : Nat} {w : World} (h : Mt K (pwG n n f) (.agg #[.slice a n c]) w) (hr : r < n) (hn : n ≤ 16) :
    Calls Tryd.prog 15 #[.agg #[.slice a n c], .int .i64 (r : Nat)] w fun e w' => (∃ a' c', e = .returned (.tuple #[.slice a' n c', .int .i64 0]) ∧ PRow 0 w' (.slice a' n c') ((pwG n n f).getD r [])) ∧ Below w.heap.size w w' := by
  refine (rowM_c _ (pwG n n f) r w h.m (by rw [pwG_len]; exact hr) (by rw [pwG_len]; omega) (by rw [pwG_row hr]; omega)).mono ?_
  rintro e w' ⟨⟨u, rfl, hu⟩, hb⟩
  have h1 : PRow 0 w' u ((pwG n n f).getD r []) := hu.row.rebase (Nat.zero_le _)
  obtain ⟨a', c', rfl⟩ := hu.ex
  rw [pwG_row hr] at h1 ⊢
  exact ⟨⟨a', c', rfl, h1⟩, hb⟩
theorem turned_at {n r j i : Nat} {f : Nat → Int × Int} (c : Int) (hr : r < n) (hj : j < n) : ((pwG n n (timesF f i c)).getD r []).getD j 0 = if r = i then ((pwG n n f).getD r []).getD j 0 * c ^ (n - 1) else ((pwG n n f).getD r []).getD j 0 := by
  rw [pwG_at hr hj, pwG_at hr hj]
  unfold timesF
  by_cases e : r = i
  · subst e
    rw [if_pos rfl, if_pos rfl]
    exact Det.pf_times _ _ _ hj
  · rw [if_neg e, if_neg e]
theorem prow_f {w : World} {v : Value} {l : List Int} {n : Nat} (h : PRow 0 w v l) (hl : l.length = n) (hn : 0 < n) : ∃ b off c, v = .slice (some ⟨b, off, none⟩) n c ∧ ∀ j, j < n → ∃ nb ad ln cp, w.cell? ⟨b, off + j * 2, none⟩ = some (.bool nb) ∧ w.cell? ⟨b, off + j * 2 + 1, none⟩ = some (.slice ad ln cp) ∧ IsInt w (.agg #[.bool nb, .slice ad ln cp]) (l.getD j 0) := by
  obtain ⟨a, c, rfl, -, vr⟩ := h.view
  obtain ⟨b, off, -, -, -, -, rfl, -⟩ := vr 0 (by omega)
  refine ⟨b, off, c, by rw [hl], fun j hj => ?_⟩
  obtain ⟨_, _, nb, ad, ln, cp, e, h1, h2, h3⟩ := vr j (by omega)
  cases e
  exact ⟨nb, ad, ln, cp, h1, h2, h3⟩
theorem bit16 {c : Int} (h1 : -16 ≤ c) (h2 : c ≤ 16) : bitN c.natAbs ≤ 64 := by
  have : ∀ m : Nat, m < 17 → bitN m ≤ 64 := by decide
  exact this _ (by omega)
end Go.Proofs.YtkejdmdldhlkgaaDoor

