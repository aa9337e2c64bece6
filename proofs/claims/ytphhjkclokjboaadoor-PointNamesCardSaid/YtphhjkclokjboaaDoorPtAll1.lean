/- All: the iterator's contract: it tells the norms, in order, or is left. -/
import Derived.Test.YtphhjkclokjboaaDoorPtRing
namespace Go.Proofs.YtphhjkclokjboaaDoor
open Pt
open Go.ChangeShapes Go.WideShapes Go.ChangeAt Go.RowKit
set_option linter.unusedVariables false
set_option linter.unusedSimpArgs false
namespace Pt
def rings : Nat → List (Int × Int)
  | 0 => []
  | h + 1 => rings h ++ ringL (h + 1) (h + 2)
def allL (m : Int) : List (Int × Int) := if 1 ≤ m ∧ m ≤ 16 then (0, 1) :: (1, 0) :: rings m.toNat else []
theorem allL_no {m : Int} (h : ¬ (1 ≤ m ∧ m ≤ 16)) : allL m = [] := by unfold allL; rw [if_neg h]
theorem allL_yes {m : Int} (h : 1 ≤ m ∧ m ≤ 16) : allL m = (0, 1) :: (1, 0) :: rings m.toNat := by unfold allL; rw [if_pos h]
theorem rings_mono (h : Nat) : ∀ c : Nat, rings h <+: rings (h + c)
  | 0 => List.prefix_rfl
  | c + 1 => (rings_mono h c).trans (by rw [← Nat.add_assoc]; exact List.prefix_append _ _)
end Pt

/-- how far All has come: two points, then ring upon ring -/
def AllEnd (m : Int) (J Jx : List (Int × Int) → World → Prop) (e : Ending) (W' : World) : Prop :=
  (∃ v, e = .returned v) ∧ ((∃ xs, xs = allL m ∧ J xs W') ∨ (∃ pre, pre <+: allL m ∧ Jx pre W'))

set_option maxRecDepth 100000 in
set_option maxHeartbeats 2000000 in
theorem all1_c (l n0 B N : Nat) (m : Int) (K : World → World → Prop) (hK : KRel n0 K) (hKm : ∀ {a b : World} {v : Value}, K a b → a.cell? ⟨B, 0, none⟩ = some v → b.cell? ⟨B, 0, none⟩ = some v) (J Jx : List (Int × Int) → World → Prop) (hJ : ∀ pre W W', J pre W → W.grownBy W' none → J pre W') (hJx : ∀ pre W W', Jx pre W → W.grownBy W' none → Jx pre W')
    (hY : Yields l K N J Jx) (W : World) (hn0 : n0 ≤ W.heap.size) (hm : W.cell? ⟨B, 0, none⟩ = some (.int .i64 m)) (h0 : J [] W) (hN : (allL m).length ≤ N) :
    Calls Tryd.prog 17 #[.func (.yield l) #[] #[], .pointer (some ⟨B, 0, none⟩)] W (AllEnd m J Jx) := by
  by_cases hr : 1 ≤ m ∧ m ≤ 16
  · have hL := allL_yes hr
    obtain ⟨k, rfl⟩ := Int.eq_ofNat_of_zero_le (by omega : 0 ≤ m)
    have hk1 : 1 ≤ k := by omega
    have hk2 : k ≤ 16 := by omega
    rw [Int.toNat_natCast] at hL
    have HL := Lib.hid hL
    clear hL hr
    obtain ⟨fn1, tmps1, asg1, body1, hy1, hR1⟩ := hY [] (0, 1) W h0 (by have := HL.out; rw [this] at hN; simp at hN ⊢; omega)
    go_enter Tryd.func17, Tryd.ntmps17
    go_step3
    go_upto_region 0 with (fail)
    refine (wpIn_wide (n := 4)).1 ?_
    gi_wp2
    refine hR1.mono ?_
    rintro e W1 (⟨rfl, hJ1, hk1'⟩ | ⟨rfl, hJx1⟩)
    · have hm1 : W1.cell? ⟨B, 0, none⟩ = some (.int .i64 (k : Int)) := hKm hk1' hm
      obtain ⟨fn2, tmps2, asg2, body2, hy2, hR2⟩ := hY [(0, 1)] (1, 0) W1 hJ1 (by have := HL.out; rw [this] at hN; simp at hN ⊢; omega)
      gi_wp2
      refine hR2.mono ?_
      rintro e W2 (⟨rfl, hJ2, hk2'⟩ | ⟨rfl, hJx2⟩)
      · have hm2 : W2.cell? ⟨B, 0, none⟩ = some (.int .i64 (k : Int)) := hKm hk2' hm1
        gi_wp2
        go_wp2
        go_step3
        go_wp2
        have hB2 : K W W2 := hK.trans hk1' hk2'
        have hJ2 : J ([(0, 1), (1, 0)] ++ rings 0) W2 := by simpa [rings] using hJ2
        clear hJ1 hm1 hk1' hk2' hR1 hR2 hy1 hy2
        go_loopw [3] (fun x wr => ∃ h : Nat, h ≤ k ∧ x = .int .i64 ((h : Int) + 1) ∧ J ([(0, 1), (1, 0)] ++ rings h) wr ∧ wr.cell? ⟨B, 0, none⟩ = some (.int .i64 (k : Int)) ∧ K W wr) (fun x _ => 17 - (intOf x).toNat)
        case atStart => exact ⟨0, by omega, rfl, hJ2, hm2, hB2⟩
        case round =>
          obtain ⟨h, hh, rfl, hJh, hmh, hBh⟩ := hrel
          by_cases hlt : h < k
          · have hpre : [(0, 1), (1, 0)] ++ rings (h + 1) <+: allL k := by
              rw [HL.out]
              have := rings_mono (h + 1) (k - (h + 1))
              rw [show h + 1 + (k - (h + 1)) = k from by omega] at this
              simpa using this
            have hlen : ([(0, 1), (1, 0)] ++ rings h).length + (ringL (h + 1) (h + 1 + 1)).length ≤ N := by
              have := hpre.length_le
              rw [rings] at this
              have e : ringL (h + 1) (h + 1 + 1) = ringL (h + 1) (h + 2) := rfl
              rw [e]
              simp at this ⊢
              omega
            have HP := Lib.hid hpre
            clear hpre
            have rc := ring_c l (h + 1) n0 N K hK (by omega) J Jx hJ hJx hY ([(0, 1), (1, 0)] ++ rings h) wr (Nat.le_trans hn0 (hK.size hBh)) hJh hlen
            rw [show ((h + 1 : Nat) : Int) = (h : Int) + 1 from by omega] at rc
            have RC := Lib.hid rc
            clear rc hlen
            go_wp2_with fail
            refine RC.out.mono ?_
            rintro e W3 (⟨rfl, hJ3, hk3⟩ | ⟨rfl, q, hq, hJx3⟩)
            · have hm3 : W3.cell? ⟨B, 0, none⟩ = some (.int .i64 (k : Int)) := hKm hk3 hmh
              go_wp2
              go_roundw
              case rel => exact ⟨h + 1, by omega, by go_num, by rw [rings, ← List.append_assoc]; exact hJ3, hm3, hK.trans hBh hk3⟩
              case measure => simp [intOf]; omega
            · go_wp2
              rw [Exit.noGoto_normal]
              refine bodyPost_end (results_none rfl _ _ _) rfl ?_
              refine ⟨⟨_, rfl⟩, .inr ⟨[(0, 1), (1, 0)] ++ rings h ++ q, (List.IsPrefix.trans ?_ HP.out), hJx3⟩⟩
              rw [rings, ← List.append_assoc]
              exact (List.prefix_append_right_inj _).2 hq
          · obtain rfl : h = k := by omega
            go_wp2
            rw [Exit.noGoto_normal]
            refine bodyPost_end (results_none rfl _ _ _) rfl ?_
            exact ⟨⟨_, rfl⟩, .inl ⟨_, by rw [HL.out]; rfl, hJh⟩⟩
      · gi_wp2
        go_wp2
        rw [Exit.noGoto_ret]
        refine bodyPost_ret (results_none rfl _ _ _) rfl ?_
        exact ⟨⟨_, rfl⟩, .inr ⟨[(0, 1), (1, 0)], by rw [HL.out]; exact ⟨rings k, rfl⟩, hJx2⟩⟩
    · gi_wp2
      refine ⟨fun _ h => (by cases h), ?_⟩
      gi_wp2
      go_wp2
      rw [Exit.noGoto_ret]
      refine bodyPost_ret (results_none rfl _ _ _) rfl ?_
      exact ⟨⟨_, rfl⟩, .inr ⟨[(0, 1)], by rw [HL.out]; exact ⟨(1, 0) :: rings k, rfl⟩, hJx1⟩⟩
  · have hL := allL_no hr
    have HL := Lib.hid hL
    clear hL
    by_cases hr1 : m < 1
    ·
      go_enter Tryd.func17, Tryd.ntmps17
      go_step3
      go_upto_region 0 with (fail)
      refine (wpIn_wide (n := 4)).1 ?_
      gi_wp2
      repeat (refine ⟨fun _ h => (by cases h), ?_⟩; gi_wp2)
      go_wp2
      rw [Exit.noGoto_ret]
      refine bodyPost_ret (results_none rfl _ _ _) rfl ?_
      exact ⟨⟨_, rfl⟩, .inl ⟨[], HL.out.symm, h0⟩⟩
    ·
      go_enter Tryd.func17, Tryd.ntmps17
      go_step3
      go_upto_region 0 with (fail)
      refine (wpIn_wide (n := 4)).1 ?_
      gi_wp2
      repeat (refine ⟨fun _ h => (by cases h), ?_⟩; gi_wp2)
      go_wp2
      rw [Exit.noGoto_ret]
      refine bodyPost_ret (results_none rfl _ _ _) rfl ?_
      exact ⟨⟨_, rfl⟩, .inl ⟨[], HL.out.symm, h0⟩⟩

theorem adepth_J {n0 B : Nat} {J : List (Int × Int) → World → Prop} (h : AbidesFrom B J) : ∀ pre W W', J pre W → W.grownBy W' none → J pre W' :=
  fun pre W W' hj hg => h pre W W' none hj hg (fun r e => by cases e)
/-- the iterator of the shelf's kind; what the rounds keep is K -/
theorem all1_stopsK (n0 B N n : Nat) (m : Int) (w : World) (K : World → World → Prop) (hK : KRel n0 K) (hKm : ∀ {a b : World} {v : Value}, K a b → a.cell? ⟨B, 0, none⟩ = some v → b.cell? ⟨B, 0, none⟩ = some v) (hn0 : n0 ≤ w.heap.size) (hm : w.cell? ⟨B, 0, none⟩ = some (.int .i64 m)) (hN : (allL m).length ≤ N) :
    SeqStopsK Fence.wide n Tryd.prog 17 #[.pointer (some ⟨B, 0, none⟩)] (fun x : Int × Int => #[pv x.1 x.2]) K (· = allL m) (· <+: allL m) N w := by
  intro l J Jx W hW hJ hJx hY h0
  refine callsIn_wide.2 ?_
  exact all1_c l n0 B N m K hK hKm J Jx (adepth_J (n0 := n0) hJ) (adepth_J (n0 := n0) hJx) (fun pre x W1 hp hl => yieldAt_wide (hY pre x W1 hp hl)) W (Nat.le_trans hn0 hW.size) (bkeep hW hm) h0 hN
theorem all1_stops (n0 B N n : Nat) (m : Int) (w : World) (hn0 : n0 ≤ w.heap.size) (hBn : B < n0) (hm : w.cell? ⟨B, 0, none⟩ = some (.int .i64 m)) (hN : (allL m).length ≤ N) :
    SeqStopsK Fence.wide n Tryd.prog 17 #[.pointer (some ⟨B, 0, none⟩)] (fun x : Int × Int => #[pv x.1 x.2]) (Below n0) (· = allL m) (· <+: allL m) N w :=
  all1_stopsK n0 B N n m w (Below n0) (below_krel n0) (fun h hv => (h.cell (p := ⟨B, 0, none⟩) hBn).trans hv) hn0 hm hN
end Go.Proofs.YtphhjkclokjboaaDoor
