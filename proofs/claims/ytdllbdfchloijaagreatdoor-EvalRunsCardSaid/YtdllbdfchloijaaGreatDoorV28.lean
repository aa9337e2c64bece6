/- Texts of this seat, laid together: MwG, MwH, MwI, MwS, ScC, MwW, MwX, MwY, MiA, MiB, RaA, RaB. Each opens with its own remark, which says what it proves, and under which conditions. -/
import Derived.Test.YtdllbdfchloijaaGreatDoorV27
import Derived.Test.YtdllbdfchloijaaGreatDoorV21
import Derived.Test.YtdllbdfchloijaaGreatDoorV05
import Derived.Test.YtdllbdfchloijaaGreatDoorV01
import Derived.BigQuiet
import Derived.Test.YtdllbdfchloijaaGreatDoorV13
import Derived.Deep.DeepCutAuto
import Derived.Test.YtdllbdfchloijaaGreatDoorV12
import Derived.Test.YtdllbdfchloijaaGreatDoorV08
set_option linter.unusedVariables false
set_option linter.unusedSimpArgs false
/- matrix's laws: rows, made. -/
namespace Go.Proofs.YtdllbdfchloijaaGreatDoor
open Num
open Go.ChangeShapes Go.WideShapes Go.ChangeAt Go.RowKit
set_option linter.unusedVariables false
set_option linter.unusedSimpArgs false
attribute [local go_sem ↓] Go.wp_at_zero Go.wp_at_succ
end Go.Proofs.YtdllbdfchloijaaGreatDoor

/- row: Cmp, Same; matrix: Same. -/
namespace Go.Proofs.YtdllbdfchloijaaGreatDoor
open Num
open Go.ChangeShapes Go.WideShapes Go.ChangeAt Go.RowKit
set_option linter.unusedVariables false
set_option linter.unusedSimpArgs false
attribute [local go_sem ↓] Go.wp_at_zero Go.wp_at_succ
theorem list_ext {α : Type} {a b : List α} {d : α} (h : a.length = b.length) (he : ∀ t, t < a.length → a.getD t d = b.getD t d) : a = b := by
  apply List.ext_getElem h
  intro i h1 h2
  have := he i h1
  simpa [h1, h2] using this
end Go.Proofs.YtdllbdfchloijaaGreatDoor

/- matrix: Same. -/
namespace Go.Proofs.YtdllbdfchloijaaGreatDoor
open Num
open Go.ChangeShapes Go.WideShapes Go.ChangeAt Go.RowKit
set_option linter.unusedVariables false
set_option linter.unusedSimpArgs false
attribute [local go_sem ↓] Go.wp_at_zero Go.wp_at_succ
end Go.Proofs.YtdllbdfchloijaaGreatDoor

/- matrices that New makes: what is done to them, in one form. -/
namespace Go.Proofs.YtdllbdfchloijaaGreatDoor
open Num
open Go.ChangeShapes Go.WideShapes Go.ChangeAt Go.RowKit
set_option linter.unusedVariables false
set_option linter.unusedSimpArgs false
/-- a matrix in memory, of sixteen rows and columns at most -/
structure Mt (k : Nat) (g : Grid) (v : Value) (w : World) : Prop where
  m : IsM 0 w v g
  rc : Rct g (cols g)
  sz : 0 < g.length ∧ 0 < cols g ∧ g.length ≤ 16 ∧ cols g ≤ 16
  bd : BdM k g
theorem Mt.keep {k : Nat} {g : Grid} {v : Value} {w w' : World} (h : Mt k g v w) (b : Below w.heap.size w w') : Mt k g v w' := ⟨h.m.keep b, h.rc, h.sz, h.bd⟩
theorem Mt.mono {k m : Nat} {g : Grid} {v : Value} {w : World} (h : Mt k g v w) (hk : k ≤ m) : Mt m g v w := ⟨h.m, h.rc, h.sz, h.bd.mono hk⟩
theorem Mt.al {k : Nat} {g : Grid} {v : Value} {w : World} (h : Mt k g v w) (o : Obj) : Mt k g v (w.alloc o) := h.keep (bal (Below.refl _ _) _)
theorem Mt.setM {k : Nat} {g : Grid} {v : Value} {w : World} (h : Mt k g v w) {p : Addr} (ht : typOf w p.block = some 73) (u : Value) : Mt k g v (w.setCell p u) := ⟨h.m.setM ht u, h.rc, h.sz, h.bd⟩
theorem prow_keep {base : Nat} {w w' : World} {v : Value} {l : List Int} (h : PRow base w v l) (k : Below w.heap.size w w') : PRow base w' v l := IsRow.keep lims_int h k
theorem app_bd2 {g : Grid} {l : List Int} {k m : Nat} (rg : Rct g (cols g)) (hl : l.length = cols g) (h1 : BdM k g) (h2 : ∀ j, Bd m (l.getD j 0)) : ∀ j, Bd (k + m + cols g) ((applyG g l).getD j 0) := fun j => by
  by_cases hj : j < g.length
  · rw [app_at rg hl hj]
    exact isum_bd (fun t => (h1 j t).mul (h2 t)) _
  · rw [List.getD_eq_getElem?_getD, List.getElem?_eq_none (by rw [app_len]; omega)]; exact bd_zero
theorem Mt.apply {k m n : Nat} {g : Grid} {l : List Int} {v u : Value} {w : World} (h1 : Mt k g v w) (hu : PRow 0 w u l) (hl : l.length = cols g) (bl : ∀ j, Bd m (l.getD j 0)) (hk : k + m + 16 ≤ 17179869184) (hn : g.length = n) :
    Calls Tryz.prog 32 #[v, u] w fun e w' => (∃ a c, e = .returned (.tuple #[.slice a n c, .int .i64 0]) ∧ PRow 0 w' (.slice a n c) (applyG g l) ∧ (applyG g l).length = n ∧ ∀ j, Bd (k + m + 16) ((applyG g l).getD j 0)) ∧ Below w.heap.size w w' := by
  have s1 := h1.sz
  refine (applyM_c v u g l k m w h1.m hu h1.rc (by omega) (by omega) (by omega) h1.bd bl (by omega)).mono ?_
  rintro ee w' ⟨ho, hb⟩
  refine ⟨?_, hb⟩
  rcases ho with ⟨-, -, x, rfl, hx⟩ | ⟨no, -⟩
  · obtain ⟨a, c, rfl⟩ := hx.ex
    have hx2 : PRow 0 w' _ (applyG g l) := hx.row.rebase (Nat.zero_le _)
    rw [app_len, hn] at hx2 ⊢
    exact ⟨a, c, rfl, hx2, rfl, fun j => (app_bd2 h1.rc hl h1.bd bl j).mono (by omega)⟩
  · exact absurd ⟨by omega, hl⟩ no
end Go.Proofs.YtdllbdfchloijaaGreatDoor

/- scheme: New. -/
namespace Go.Proofs.YtdllbdfchloijaaGreatDoor
open Pt
open Go.ChangeShapes Go.WideShapes Go.ChangeAt Go.RowKit
set_option linter.unusedVariables false
set_option linter.unusedSimpArgs false
attribute [local go_sem ↓] Go.wp_at_zero Go.wp_at_succ
/-- a scheme in memory -/
structure SchAt (w : World) (b : Nat) (k1 k2 : Int) (n : Nat) (f : Nat → Int × Int) : Prop where
  c0 : w.cell? ⟨b, 0, none⟩ = some (.int .i64 k1)
  c1 : w.cell? ⟨b, 1, none⟩ = some (.int .i64 k2)
  ps : ∃ a c, w.cell? ⟨b, 2, none⟩ = some (.slice a n c) ∧ PtsV w a n c f
theorem SchAt.keep {w w' : World} {b : Nat} {k1 k2 : Int} {n : Nat} {f : Nat → Int × Int} (h : SchAt w b k1 k2 n f) (k : Below w.heap.size w w') : SchAt w' b k1 k2 n f :=
  ⟨bkeep k h.c0, bkeep k h.c1, by obtain ⟨a, c, h1, h2⟩ := h.ps; exact ⟨a, c, bkeep k h1, h2.keep k⟩⟩
/-- what New answers -/
def NewSPost (k1 k2 : Int) (n : Nat) (f : Nat → Int × Int) (w : World) (e : Ending) (w' : World) : Prop :=
  ((∃ no, Wrg k1 k2 n f no ∧ no ≠ 0 ∧ e = .returned (.tuple #[.pointer none, .int .i64 no])) ∨ (Sch k1 k2 n f ∧ ∃ b, e = .returned (.tuple #[.pointer (some ⟨b, 0, none⟩), .int .i64 0]) ∧ SchAt w' b k1 k2 n f)) ∧ Below w.heap.size w w'
theorem count_v (k : Int) (v : Bool) (w : World) (hv : decide (1 ≤ k ∧ k ≤ 8) = v) : Calls Tryz.prog 65 #[.int .i64 k] w fun e w' => e = .returned (.bool v) ∧ Below w.heap.size w w' := by
  subst hv
  have hB := Below.refl w.heap.size w
  by_cases h1 : 1 ≤ k
  · by_cases h2 : k ≤ 8
    · rw [decide_eq_true (show 1 ≤ k ∧ k ≤ 8 from ⟨h1, h2⟩)]
      go_enter Tryz.func65, Tryz.ntmps65
      go_wp2
      go_ret
      exact ⟨rfl, by repeat (first | exact Below.refl _ _ | exact hB | refine Below.drew ?_ | refine below_drewN ?_ _ | refine bset ?_ (by simp <;> omega) _ | refine bal ?_ _)⟩
    · rw [decide_eq_false (show ¬ (1 ≤ k ∧ k ≤ 8) from fun h => h2 h.2)]
      go_enter Tryz.func65, Tryz.ntmps65
      go_wp2
      go_ret
      exact ⟨rfl, by repeat (first | exact Below.refl _ _ | exact hB | refine Below.drew ?_ | refine below_drewN ?_ _ | refine bset ?_ (by simp <;> omega) _ | refine bal ?_ _)⟩
  · rw [decide_eq_false (show ¬ (1 ≤ k ∧ k ≤ 8) from fun h => h1 h.1)]
    go_enter Tryz.func65, Tryz.ntmps65
    go_wp2
    go_ret
    exact ⟨rfl, by repeat (first | exact Below.refl _ _ | exact hB | refine Below.drew ?_ | refine below_drewN ?_ _ | refine bset ?_ (by simp <;> omega) _ | refine bal ?_ _)⟩
theorem cnt_iff (k1 k2 : Int) : Cnt k1 k2 ↔ decide (1 ≤ k1 ∧ k1 ≤ 8) = true ∧ decide (1 ≤ k2 ∧ k2 ≤ 8) = true := by
  unfold Cnt; simp; omega
theorem TwRes.iff {f : Nat → Int × Int} {n : Nat} {x y : Int} {ok : Bool} (h : TwRes f n x y ok) : ok = false ↔ NoTw f n := by
  rcases h with ⟨rfl, i, j, -, -, h1, h2, h3, -⟩ | ⟨rfl, -, -, h⟩
  · exact ⟨fun h => (by cases h), fun h => by have := h j h2 i h1; rw [h3] at this; cases this⟩
  · exact ⟨fun _ => h, fun _ => rfl⟩
theorem PtsV.at {w : World} {a : Option Addr} {n cap j : Nat} {f : Nat → Int × Int} (h : PtsV w a n cap f) (hj : j < n) : ∃ b off, a = some ⟨b, off, none⟩ ∧ n ≤ cap ∧ w.cell? ⟨b, off + j * 2, none⟩ = some (.int .i64 (f j).1) ∧ w.cell? ⟨b, off + j * 2 + 1, none⟩ = some (.int .i64 (f j).2) := by
  rcases h with h | ⟨b, off, h1, h2, h3⟩
  · omega
  · exact ⟨b, off, h1, h2, (h3 j hj).1, (h3 j hj).2⟩
theorem PtsV.nil {w : World} {a : Option Addr} {n cap : Nat} {f : Nat → Int × Int} (h : PtsV w a n cap f) (ha : a = none) : n = 0 := by
  rcases h with h | ⟨b, off, h1, _⟩
  · exact h
  · rw [ha] at h1; cases h1
set_option maxRecDepth 100000 in
set_option maxHeartbeats 8000000 in
theorem newS_c (k1 k2 : Int) (a : Option Addr) (n cap : Nat) (f : Nat → Int × Int) (w : World) (h : PtsV w a n cap f) (hn : n ≤ 4611686018427387904) :
    Calls Tryz.prog 29 #[.int .i64 k1, .int .i64 k2, .slice a n cap] w (NewSPost k1 k2 n f w) := by
  have hB := Below.refl w.heap.size w
  have HP := Lib.hid h
  obtain ⟨v1, hv1⟩ : ∃ v, decide (1 ≤ k1 ∧ k1 ≤ 8) = v := ⟨_, rfl⟩
  obtain ⟨v2, hv2⟩ : ∃ v, decide (1 ≤ k2 ∧ k2 ≤ 8) = v := ⟨_, rfl⟩
  have HC := Lib.hid (show Cnt k1 k2 ↔ v1 = true ∧ v2 = true by rw [← hv1, ← hv2]; exact cnt_iff k1 k2)
  have C1 := Lib.hid (fun W => count_v k1 v1 W hv1)
  have C2 := Lib.hid (fun W => count_v k2 v2 W hv2)
  clear hv1 hv2 h
  go_enter Tryz.func29, Tryz.ntmps29
  go_wp2_with fail
  (with_reducible refine (C1.out _).mono ?_)
  rintro e w1 ⟨rfl, hb1⟩
  have hB1 : Below w.heap.size w w1 := bthen (by repeat (first | exact Below.refl _ _ | exact hB | refine Below.drew ?_ | refine below_drewN ?_ _ | refine bset ?_ (by simp <;> omega) _ | refine bal ?_ _)) hb1
  clear hb1 C1 hB
  cases v1 with
  | false =>
    have HW := Lib.hid (show Wrg k1 k2 n f 70 from .inl ⟨fun h => (by have := (HC.out.1 h.1).1; cases this), rfl⟩)
    clear HC C2
    go_wp2
    go_ret2
    exact ⟨.inl ⟨70, HW.out, by decide, rfl⟩, by repeat (first | exact Below.refl _ _ | exact hB1 | refine Below.drew ?_ | refine below_drewN ?_ _ | refine bset ?_ (by simp <;> omega) _ | refine bal ?_ _)⟩
  | true =>
  go_wp2_with fail
  (with_reducible refine (C2.out _).mono ?_)
  rintro e w2 ⟨rfl, hb2⟩
  have hB : Below w.heap.size w w2 := bthen (by repeat (first | exact Below.refl _ _ | exact hB1 | refine Below.drew ?_ | refine below_drewN ?_ _ | refine bset ?_ (by simp <;> omega) _ | refine bal ?_ _)) hb2
  clear hb2 C2 hB1
  cases v2 with
  | false =>
    have HW := Lib.hid (show Wrg k1 k2 n f 70 from .inl ⟨fun h => (by have := (HC.out.1 h.1).2; cases this), rfl⟩)
    clear HC
    go_wp2
    go_ret2
    exact ⟨.inl ⟨70, HW.out, by decide, rfl⟩, by repeat (first | exact Below.refl _ _ | exact hB | refine Below.drew ?_ | refine below_drewN ?_ _ | refine bset ?_ (by simp <;> omega) _ | refine bal ?_ _)⟩
  | true =>
  have HCT := Lib.hid (HC.out.2 (by simp))
  clear HC
  go_wp2
  go_loopw [23] (fun x wr => ∃ j : Nat, j ≤ n ∧ x = .int .i64 j ∧ Below w.heap.size w wr ∧ Hid (∀ t, t < j → inB (f t).1 (f t).2 = true)) (fun x _ => n - (intOf x).toNat)
  case atStart => exact ⟨0, Nat.zero_le _, rfl, by first | exact hB | exact hB.drew, Lib.hid (fun t ht => by omega)⟩
  case round =>
    obtain ⟨j, hj, rfl, hBr, hE⟩ := hrel
    by_cases hlt : j < n
    · have hltI : (j : Int) < (n : Int) := by omega
      obtain ⟨b, off, rfl, -, c0, c1⟩ := (HP.out.keep hBr).at hlt
      have zb := cell_lt c0
      obtain ⟨q, hq⟩ : ∃ q, f j = q := ⟨_, rfl⟩
      rw [hq] at c0 c1
      obtain ⟨q1, q2⟩ := q
      obtain ⟨v, hv⟩ : ∃ v, inB q1 q2 = v := ⟨_, rfl⟩
      have NC := Lib.hid (fun W => ptIn_v q1 q2 v W hv)
      have HV := Lib.hid (show inB (f j).1 (f j).2 = v by rw [hq]; exact hv)
      have hBw := Below.refl wr.heap.size wr
      have HLT := Lib.hid hlt
      clear hq hv
      go_wp2_with fail
      (with_reducible refine (NC.out _).mono ?_)
      rintro e w5 ⟨rfl, hb5⟩
      have hB5 := bthen hBr (bthen (show Below wr.heap.size wr _ by repeat (first | exact Below.refl _ _ | exact hBw | refine Below.drew ?_ | refine below_drewN ?_ _ | refine bset ?_ (by simp <;> omega) _ | refine bal ?_ _)) hb5)
      cases v with
      | false =>
        have HW := Lib.hid (show Wrg k1 k2 n f 70 from .inl ⟨fun h => (by have := h.2 j HLT.out; rw [HV.out] at this; cases this), rfl⟩)
        go_wp2
        go_ret2
        exact ⟨.inl ⟨70, HW.out, by decide, rfl⟩, hB5⟩
      | true =>
        have HE2 := Lib.hid (show ∀ t, t < j + 1 → inB (f t).1 (f t).2 = true from fun t ht => by
          by_cases e : t = j
          · subst e; exact HV.out
          · exact hE.out t (by omega))
        go_wp2
        exact ⟨⟨j + 1, hlt, by go_num, hB5, HE2⟩, measS hlt (by go_num) rfl⟩
    · obtain rfl : n = j := by omega
      have hltI : ¬ (n : Int) < (n : Int) := by omega
      have HAI := Lib.hid (show AllIn n f from hE.out)
      have hw1 : wrap64 (k1 + k2) = k1 + k2 := wp64 _ (by have := HCT.out; unfold Cnt at this; omega) (by have := HCT.out; unfold Cnt at this; omega)
      have hw2 : wrap64 (k1 + k2 - 1) = k1 + k2 - 1 := wp64 _ (by have := HCT.out; unfold Cnt at this; omega) (by have := HCT.out; unfold Cnt at this; omega)
      have hBw := Below.refl wr.heap.size wr
      clear hE hB
      by_cases hl : (n : Int) = k1 + k2 - 1
      rotate_left
      · have hI : ((n : Int) != k1 + k2 - 1) = true := by simp; omega
        have HW := Lib.hid (show Wrg k1 k2 n f 71 from .inr (.inl ⟨HCT.out, HAI.out, fun h => hl h.len, rfl⟩))
        clear hl
        go_wp2
        go_ret2
        exact ⟨.inl ⟨71, HW.out, by decide, rfl⟩, by repeat (first | exact Below.refl _ _ | exact hBr | refine Below.drew ?_ | refine below_drewN ?_ _ | refine bset ?_ (by simp <;> omega) _ | refine bal ?_ _)⟩
      have hI : ((n : Int) != k1 + k2 - 1) = false := by simp; omega
      have HL := Lib.hid hl
      clear hl
      obtain ⟨v3, hv3⟩ : ∃ v : Bool, v = false ↔ NoNone n f := by
        by_cases h : NoNone n f
        · exact ⟨false, by simp [h]⟩
        · exact ⟨true, by simp [h]⟩
      have HV3 := Lib.hid hv3
      have CN := Lib.hid (fun W (q : Below wr.heap.size wr W) => cntNone_v a n cap f v3 W (HP.out.keep (bthen hBr q)) hn hv3)
      clear hv3
      go_wp2_with fail
      (with_reducible refine (CN.out _ ?_).mono ?_); (repeat (first | exact Below.refl _ _ | exact hBw | refine Below.drew ?_ | refine below_drewN ?_ _ | refine bset ?_ (by simp <;> omega) _ | refine bal ?_ _))
      rintro e w5 ⟨rfl, hb5⟩
      have hB5 := bthen hBr (bthen (show Below wr.heap.size wr _ by repeat (first | exact Below.refl _ _ | exact hBw | refine Below.drew ?_ | refine below_drewN ?_ _ | refine bset ?_ (by simp <;> omega) _ | refine bal ?_ _)) hb5)
      clear CN hb5 hBw
      cases v3 with
      | true =>
        have HW := Lib.hid (show Wrg k1 k2 n f 71 from .inr (.inl ⟨HCT.out, HAI.out, fun h => (by have := HV3.out.2 h.nn; cases this), rfl⟩))
        go_wp2
        go_ret2
        exact ⟨.inl ⟨71, HW.out, by decide, rfl⟩, by repeat (first | exact Below.refl _ _ | exact hB5 | refine Below.drew ?_ | refine below_drewN ?_ _ | refine bset ?_ (by simp <;> omega) _ | refine bal ?_ _)⟩
      | false =>
      have hn15 : n ≤ 300 := by have := HCT.out; have := HL.out; unfold Cnt at *; omega
      have HN := Lib.hid hn15
      have TC := Lib.hid (fun W (q : Below w5.heap.size w5 W) => ptTwins_v a n cap f W hn15 (HP.out.keep (bthen hB5 q)))
      have hBw := Below.refl w5.heap.size w5
      clear hn15 hI hw1 hw2
      go_wp2_with fail
      (with_reducible refine (TC.out _ ?_).mono ?_); (repeat (first | exact Below.refl _ _ | exact hBw | refine Below.drew ?_ | refine below_drewN ?_ _ | refine bset ?_ (by simp <;> omega) _ | refine bal ?_ _))
      rintro e w6 ⟨⟨x, y, ok, rfl, hr⟩, hb6⟩
      have hB6 := bthen hB5 (bthen (show Below w5.heap.size w5 _ by repeat (first | exact Below.refl _ _ | exact hBw | refine Below.drew ?_ | refine below_drewN ?_ _ | refine bset ?_ (by simp <;> omega) _ | refine bal ?_ _)) hb6)
      have HT := Lib.hid hr.iff
      clear TC hb6 hBw hr
      cases ok with
      | true =>
        have HW := Lib.hid (show Wrg k1 k2 n f 71 from .inr (.inl ⟨HCT.out, HAI.out, fun h => (by have := HT.out.2 h.tw; cases this), rfl⟩))
        go_wp2
        go_ret2
        exact ⟨.inl ⟨71, HW.out, by decide, rfl⟩, by repeat (first | exact Below.refl _ _ | exact hB6 | refine Below.drew ?_ | refine below_drewN ?_ _ | refine bset ?_ (by simp <;> omega) _ | refine bal ?_ _)⟩
      | false =>
      have HSC := Lib.hid (show Sch k1 k2 n f from ⟨HCT.out, HAI.out, HL.out, HV3.out.1 (by simp), HT.out.1 (by simp)⟩)
      have KC := Lib.hid (fun W (q : Below w6.heap.size w6 W) => clonePts_c a cap n f W (HP.out.keep (bthen hB6 q)) (fun e => HP.out.nil e) (by have := HN.out; omega))
      have hBw := Below.refl w6.heap.size w6
      go_wp2_with fail
      (with_reducible refine (KC.out _ ?_).mono ?_); (repeat (first | exact Below.refl _ _ | exact hBw | refine Below.drew ?_ | refine below_drewN ?_ _ | refine bset ?_ (by simp <;> omega) _ | refine bal ?_ _))
      rintro e w7 ⟨⟨a', c', rfl, -, hp7, -⟩, hb7⟩
      have hB7 := bthen hB6 (bthen (show Below w6.heap.size w6 _ by repeat (first | exact Below.refl _ _ | exact hBw | refine Below.drew ?_ | refine below_drewN ?_ _ | refine bset ?_ (by simp <;> omega) _ | refine bal ?_ _)) hb7)
      have HP7 := Lib.hid hp7
      clear KC hb7 hBw hp7
      go_wp2
      go_ret2
      exact ⟨.inr ⟨HSC.out, w7.heap.size, rfl, cell_new rfl rfl, cell_new rfl rfl, a', c', cell_new rfl rfl, HP7.out.keep (bal (Below.refl _ _) _)⟩, by repeat (first | exact Below.refl _ _ | exact hB7 | refine Below.drew ?_ | refine below_drewN ?_ _ | refine bset ?_ (by simp <;> omega) _ | refine bal ?_ _)⟩
end Go.Proofs.YtdllbdfchloijaaGreatDoor

/- matrix: what Pivots' iterator tells; Rank. -/
namespace Go.Proofs.YtdllbdfchloijaaGreatDoor
open Num
open Go.ChangeShapes Go.WideShapes Go.ChangeAt Go.RowKit
set_option linter.unusedVariables false
set_option linter.unusedSimpArgs false
attribute [local go_sem ↓] Go.wp_at_zero Go.wp_at_succ
/-- all cells but those of one block lie as they lay -/
def KpC (c : Nat) (X Y : World) : Prop := X.heap.size ≤ Y.heap.size ∧ ∀ (B i : Nat) (v : Value), B ≠ c → X.cell? ⟨B, i, none⟩ = some v → Y.cell? ⟨B, i, none⟩ = some v
theorem KpC.refl (c : Nat) (X : World) : KpC c X X := ⟨Nat.le_refl _, fun _ _ _ _ h => h⟩
theorem KpC.trans {c : Nat} {X Y Z : World} (h : KpC c X Y) (k : KpC c Y Z) : KpC c X Z := ⟨Nat.le_trans h.1 k.1, fun B i v hb hv => k.2 B i v hb (h.2 B i v hb hv)⟩
theorem KpC.put {c l : Nat} {X : World} {o o' : Obj} (h : X.heap[l]? = some o) (ho : o.isCells = false) : KpC c X (X.putObj l o') := ⟨Nat.le_of_eq (by simp), fun B i v _ hc => by
  have e : B ≠ l := fun e => by
    subst e
    obtain ⟨o2, h2, c2⟩ := cells_of_cell hc
    have h2' : X.heap[B]? = some o2 := h2
    rw [h] at h2'; cases h2'; rw [ho] at c2; cases c2
  rw [World.cell?_of_block (w := X) (World.putObj_heap_other e)]; exact hc⟩
/-- the list of the pivots' columns -/
def IsPv (b0 : Nat) (w : World) (v : Value) (L : List Nat) : Prop := IsL 3 PInt b0 w v L
theorem IsPv.al {b0 : Nat} {w : World} {v : Value} {L : List Nat} (h : IsPv b0 w v L) (o : Obj) : IsPv b0 (w.alloc o) v L := IsL.keep prs_pint h (bal (Below.refl _ _) _)
end Go.Proofs.YtdllbdfchloijaaGreatDoor

/- matrix: Rank. -/
namespace Go.Proofs.YtdllbdfchloijaaGreatDoor
open Num
open Go.ChangeShapes Go.WideShapes Go.ChangeAt Go.RowKit
set_option linter.unusedVariables false
set_option linter.unusedSimpArgs false
attribute [local go_sem ↓] Go.wp_at_zero Go.wp_at_succ
attribute [local go_sem] Oper.semAt_some
end Go.Proofs.YtdllbdfchloijaaGreatDoor

/- matrices, plain: determinants of what is turned, swapped, multiplied; ranks. -/
namespace Go.Proofs.YtdllbdfchloijaaGreatDoor
open Num
open Go.ChangeShapes Go.WideShapes Go.ChangeAt Go.RowKit
set_option linter.unusedVariables false
set_option linter.unusedSimpArgs false
/-- a list of the call's own: where it lies; that it may be written -/
theorem OwnL.place {α : Type} {T : TypeId} {Pr : World → Value → α → Prop} {w0 wr : World} {v : Value} {g : List α} (h : OwnL T Pr w0 wr v g) (hl : 0 < g.length) :
    ∃ b cap, v = .slice (some ⟨b, 0, none⟩) g.length cap ∧ w0.heap.size ≤ b ∧ b < wr.heap.size ∧ ∀ j, wr.frozen? ⟨b, j, none⟩ = false := by
  obtain ⟨xs, ⟨⟨hl', h1⟩, _⟩, h2⟩ := h
  rcases h1 with ⟨rfl, h0⟩ | ⟨b, cap, cur, rfl, hg, hh, hc, hm, hs, ht⟩
  · omega
  · exact ⟨b, cap, rfl, hg, (Array.getElem?_eq_some_iff.1 hh).1, fun j => by simp [World.frozen?, hh]⟩
theorem fits_of {g : Grid} (s : 0 < g.length ∧ 0 < cols g ∧ g.length ≤ 16 ∧ cols g ≤ 16) (r : Rct g (cols g)) : fitsE g = 0 := by
  unfold fitsE
  rw [if_neg (by omega), if_neg (by omega), if_pos (fun i hi => r i hi)]
end Go.Proofs.YtdllbdfchloijaaGreatDoor

/- matrix's laws: unit: a number times the identity. -/
namespace Go.Proofs.YtdllbdfchloijaaGreatDoor
open Num
open Go.ChangeShapes Go.WideShapes Go.ChangeAt Go.RowKit
set_option linter.unusedVariables false
set_option linter.unusedSimpArgs false
attribute [local go_sem ↓] Go.wp_at_zero Go.wp_at_succ
end Go.Proofs.YtdllbdfchloijaaGreatDoor

/- matrices, plain: the adjugate, the inverse, what divides all its numbers. -/
namespace Go.Proofs.YtdllbdfchloijaaGreatDoor
open Num
set_option linter.unusedVariables false
set_option linter.unusedSimpArgs false
section
variable {g : Grid} {n : Nat}
end
end Go.Proofs.YtdllbdfchloijaaGreatDoor

/- ratio: lowest, Make, Num, Den. -/
namespace Go.Proofs.YtdllbdfchloijaaGreatDoor
open Num
open Go.ChangeShapes Go.WideShapes Go.ChangeAt Go.RowKit
set_option linter.unusedVariables false
set_option linter.unusedSimpArgs false
attribute [local go_sem ↓] Go.wp_at_zero Go.wp_at_succ
/-- a fraction in memory: what stands above, what stands below -/
def IsRat (w : World) (v : Value) (n d : Int) : Prop := ∃ n1 a1 l1 c1 n2 a2 l2 c2, v = .agg #[.bool n1, .slice a1 l1 c1, .bool n2, .slice a2 l2 c2] ∧ IsInt w (.agg #[.bool n1, .slice a1 l1 c1]) n ∧ IsInt w (.agg #[.bool n2, .slice a2 l2 c2]) (d - 1)
theorem IsRat.keep {w w' : World} {v : Value} {n d : Int} (h : IsRat w v n d) (k : Below w.heap.size w w') : IsRat w' v n d := by
  obtain ⟨n1, a1, l1, c1, n2, a2, l2, c2, e, h1, h2⟩ := h
  exact ⟨n1, a1, l1, c1, n2, a2, l2, c2, e, h1.keep k, h2.keep k⟩
theorem IsInt.lit {w : World} {v : Value} {z : Int} (h : IsInt w v z) : ∃ n a l c, v = .agg #[.bool n, .slice a l c] := by
  obtain ⟨n, a, c, l, rfl, -⟩ := h
  exact ⟨n, a, l.length, c, rfl⟩
section
variable {w : World} {g b i : Nat} {u v x : Value}
end
end Go.Proofs.YtdllbdfchloijaaGreatDoor

/- ratio: Make over a number above 0, Num, Den. -/
namespace Go.Proofs.YtdllbdfchloijaaGreatDoor
open Num
open Go.ChangeShapes Go.WideShapes Go.ChangeAt Go.RowKit
set_option linter.unusedVariables false
set_option linter.unusedSimpArgs false
attribute [local go_sem ↓] Go.wp_at_zero Go.wp_at_succ
end Go.Proofs.YtdllbdfchloijaaGreatDoor

