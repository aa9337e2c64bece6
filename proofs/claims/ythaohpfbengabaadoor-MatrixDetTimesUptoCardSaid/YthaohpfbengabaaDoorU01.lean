/- Texts of this seat, laid together (what the earlier ones leave out): Iter, Bed, MwG. Each opens with its own remark, which says what it proves, and under which conditions. -/
import Derived.Test.YthaohpfbengabaaDoorR01
import Derived.Test.YthaohpfbengabaaDoorR02
import Derived.Test.YthaohpfbengabaaDoorR03
import Derived.Test.YthaohpfbengabaaDoorR04
import Derived.Test.YthaohpfbengabaaDoorR05
import Derived.Test.YthaohpfbengabaaDoorR06
import Derived.Test.YthaohpfbengabaaDoorR07
import Derived.Test.YthaohpfbengabaaDoorR08
import Derived.Test.YthaohpfbengabaaDoorR09
import Derived.Test.YthaohpfbengabaaDoorR10
import Derived.Test.YthaohpfbengabaaDoorR11
import Derived.Test.YthaohpfbengabaaDoorR12
import Derived.Test.YthaohpfbengabaaDoorR13
import Derived.Test.YthaohpfbengabaaDoorR14
import Derived.Test.YthaohpfbengabaaDoorR16
import Derived.WalkKit
import Derived.ProofKit
import Derived.OpenShut
import Derived.Deep.QuietTactic
import Derived.BigQuiet
import Derived.Outline
import Derived.Lib.Hide
import Derived.WalkSmall
import Derived.WalkSpells
import Derived.WalkLawsBesides
import Derived.Deep.RegionWith
import Derived.Deep.RegionHeld3
import Derived.Laws.CopyOwn
import Derived.Shelf.Small.Bits
import Derived.Laws.AppendOwn
import Derived.Deep.AppendLies
import Derived.OneCell
import Derived.Laws.BitsAllLaws
import Derived.Shelf.Spec.TrailingZeros
import Derived.Shelf.Strings.Builder1
import Derived.Shelf.Strings.Trim
import Derived.Deep.Cut
import Derived.Deep.DeepCutAuto
import Derived.ArgAppend
import Derived.Deep.DeepFit
import Derived.Shelf.Abstract
import Derived.Laws.EntriesVeiled
import Derived.RegionTactic
import Derived.ChangeAlike
import Derived.Laws.OwnMore
import Derived.Deep.Onto
import Derived.Deep.DrawnRows
import Derived.Deep.RegionLaw
import Derived.Deep.LoopGhost
import Derived.RangeFuncNested
import Derived.RangeFuncBound
import Derived.RangeFuncCalls
import Derived.RangeFuncLeaves
import Derived.Shelf.RegionOpen
import Derived.OwnWalkIn
import Derived.TacticsInMore
import Derived.LoopNIn
import Derived.LoopIn
import Derived.Laws.CopyRow
import Derived.Laws.Rows
import Derived.Laws.Tables
import Derived.StillTail
import Derived.Deep.Quiet
import Derived.StillTailTactics
import Derived.Lib.AppendZeros
import Derived.Laws.IdiomStrings
import Derived.Laws.BytesArg
import Derived.Laws.RangeString
import Derived.Lib.OthersKept
import Derived.Maps.AppendAt
import Derived.Shelf.Strings.OnBuilder
import Derived.Lib.SmallJoins
import Derived.Deep.Slices
import Derived.Deep.Matrix
import Derived.Deep.Fields
import Derived.ChangeSame
import Derived.DataShut
import Derived.SizedLaws
set_option linter.unusedVariables false
set_option linter.unusedSimpArgs false
namespace Go.Proofs.YthaohpfbengabaaDoor
open Go.ChangeShapes Go.WideShapes Go.ChangeAt Go.RowKit
theorem belA {B : Nat} {a b : World} (h : Below B a b := by repeat (first | exact Below.refl _ _ | assumption | refine Below.drew ?_ | refine below_drewN ?_ _ | refine bset ?_ (by simp <;> omega) _ | refine bal ?_ _)) : Below B a b := h
end Go.Proofs.YthaohpfbengabaaDoor
/- Ranges over functions, in the plain walk: a law in the wide fence, and what its users need. -/
namespace Go.Proofs.YthaohpfbengabaaDoor
open Go.ChangeShapes Go.WideShapes Go.ChangeAt Go.RowKit

theorem grown_of_below {W W' : World} (h : Below W.heap.size W W') : W.grownBy W' none := by
  constructor
  · exact h.os
  · exact h.tape
  · exact h.output
  · exact h.size
  · intro k hk _; exact h.block k hk
/-! what a round's body keeps -/
theorem kf_set {B : Nat} {W X : World} (h : KeepsFrom B W X) (p : Addr) (v : Value) : KeepsFrom B W (X.setCell p v) := h.trans ((KeepsOthers.setCell X p v).from B)
/-! ### A region that draws its order, in a round: one walk in the text's order -/
section
variable {P : Program} {ops : Array Oper} {C : World → Prop} {l n : Nat}
end
end Go.Proofs.YthaohpfbengabaaDoor

/- Elimination without fractions, in plain Lean: the determinant, the rank, of what is turned too. -/
namespace Det
theorem detE_zero (n : Nat) (a : Nat → Nat → Int) : detE n a = 0 ↔ (elR n a n).p.length < n := by
  obtain ⟨q, h⟩ := inv_all n n a n (Nat.le_refl _)
  unfold detE
  constructor
  · intro he
    split at he
    · assumption
    · have := h.nz
      rcases h.sgn with e | e <;> rw [e] at he <;> omega
  · intro hk; rw [if_pos hk]
def rk (n m : Nat) (a : Nat → Nat → Int) : Nat := (elR n a m).p.length
theorem rk_le {n m : Nat} (a : Nat → Nat → Int) : rk m n (fun i j => a j i) ≤ rk n m a := by
  obtain ⟨q, h⟩ := inv_all n m a m (Nat.le_refl _)
  obtain ⟨q', h'⟩ := inv_all m n (fun i j => a j i) n (Nat.le_refl _)
  unfold rk
  obtain ⟨s, hs⟩ : ∃ s, elR n a m = s := ⟨_, rfl⟩
  obtain ⟨s', hs'⟩ : ∃ s, elR m (fun i j => a j i) n = s := ⟨_, rfl⟩
  rw [hs] at h ⊢
  rw [hs'] at h' ⊢
  clear hs hs'
  apply Nat.le_of_not_lt
  intro hlt
  have hd : det s'.p.length (fun r c => (a (s'.p.getD c 0) (q' r) : Rat)) ≠ 0 := by
    have := h'.last
    rw [← this]; simpa using h'.nz
  rw [← det_tr] at hd
  -- each row is put together of the rows of the pivots
  have hrow : ∀ x, x < n → ∃ l : Nat → Rat, ∀ c, c < m → (a x c : Rat) = sum s.p.length fun i => l i * (a (q i) c : Rat) := fun x hx => by
    obtain ⟨r, hr, rfl⟩ := h.q3 x hx
    by_cases hk : r < s.p.length
    · refine ⟨fun i => if i = r then 1 else 0, fun c _ => ?_⟩
      rw [sum_pick hk (fun i _ hne => by dsimp only; rw [if_neg hne]; grind)]; dsimp only; rw [if_pos rfl]; grind
    · exact rows_comb h (by omega) hr
  have hL : ∃ L : Nat → Nat → Rat, ∀ x, x < n → ∀ c, c < m → (a x c : Rat) = sum s.p.length fun i => L x i * (a (q i) c : Rat) := by
    refine ⟨fun x => if hx : x < n then Classical.choose (hrow x hx) else fun _ => 0, fun x hx c hc => ?_⟩
    simp only [dif_pos hx]
    exact Classical.choose_spec (hrow x hx) c hc
  obtain ⟨L, hL⟩ := hL
  obtain ⟨K, hK⟩ : ∃ K, s'.p.length = K := ⟨_, rfl⟩
  have htop := h'.top
  have hk' := h'.k
  have hq' := h'.q1
  rw [hK] at hd hlt htop hk'
  apply hd
  have e : det K (tr fun r c => (a (s'.p.getD c 0) (q' r) : Rat)) = det K (mul K (fun r i => if i < s.p.length then L (s'.p.getD r 0) i else 0) (fun i c => if i < s.p.length then (a (q i) (q' c) : Rat) else 0)) := by
    refine det_congr fun x y hx hy => ?_
    unfold tr mul
    dsimp only
    rw [hL (s'.p.getD x 0) (htop x hx) (q' y) (hq' y (by omega))]
    have key : ∀ d, (sum (s.p.length + d) fun k => (if k < s.p.length then L (s'.p.getD x 0) k else 0) * (if k < s.p.length then (a (q k) (q' y) : Rat) else 0)) = sum s.p.length fun i => L (s'.p.getD x 0) i * (a (q i) (q' y) : Rat) := by
      intro d
      induction d with
      | zero => exact sum_congr fun i hi => by rw [Nat.add_zero] at hi; rw [if_pos hi, if_pos hi]
      | succ d ih =>
        rw [← Nat.add_assoc]
        simp only [sum]
        rw [ih, if_neg (by omega), if_neg (by omega)]; grind
    have := key (K - s.p.length)
    rw [show s.p.length + (K - s.p.length) = K by omega] at this
    exact this.symm
  rw [e, det_mul]
  have hz : det K (fun i c => if i < s.p.length then (a (q i) (q' c) : Rat) else 0) = 0 := (det_alt K).zero _ s.p.length hlt fun j _ => by rw [if_neg (by omega)]
  rw [hz]; grind
theorem rk_tr (n m : Nat) (a : Nat → Nat → Int) : rk m n (fun i j => a j i) = rk n m a := Nat.le_antisymm (rk_le a) (rk_le (n := m) (m := n) fun i j => a j i)
theorem detE_tr (n : Nat) (a : Nat → Nat → Int) : detE n (fun i j => a j i) = detE n a := by
  apply Rat.intCast_inj.1
  rw [detE_eq, detE_eq, ← det_tr]; rfl
theorem detE_swap {n : Nat} (a : Nat → Nat → Int) {i k : Nat} (hi : i < n) (hk : k < n) (hne : i ≠ k) : detE n (swp a i k) = - detE n a := by
  apply Rat.intCast_inj.1
  rw [Rat.intCast_neg, detE_eq, detE_eq, ← (det_alt n).swapped (cst a) i k hi hk hne]
  congr 1
  funext r c
  unfold cst swp swap upd
  by_cases h1 : r = i
  · subst h1; simp [hne]
  · by_cases h2 : r = k
    · subst h2; simp [h1]
    · simp [h1, h2]
theorem isum_cast (n : Nat) (f : Nat → Int) : ((isum n f : Int) : Rat) = sum n fun i => (f i : Rat) := by
  induction n with
  | zero => rfl
  | succ n ih => simp only [isum, sum]; rw [Rat.intCast_add, ih]
def imul (n : Nat) (a b : Nat → Nat → Int) : Nat → Nat → Int := fun i j => isum n fun k => a i k * b k j
theorem detE_mul (n : Nat) (a b : Nat → Nat → Int) : detE n (imul n a b) = detE n a * detE n b := by
  apply Rat.intCast_inj.1
  rw [Rat.intCast_mul, detE_eq, detE_eq, detE_eq, ← det_mul]
  congr 1
  funext i j
  unfold cst imul mul
  rw [isum_cast]
  exact sum_congr fun k _ => Rat.intCast_mul _ _
end Det

/- matrix's laws: rows, made. -/
namespace Go.Proofs.YthaohpfbengabaaDoor
open Num
open Go.ChangeShapes Go.WideShapes Go.ChangeAt Go.RowKit
attribute [local go_sem ↓] Go.wp_at_zero Go.wp_at_succ
set_option maxRecDepth 100000 in
set_option maxHeartbeats 4000000 in
theorem rows5_c (v : Value) (g : Grid) (w : World) (hv : GridI w v g) (hg : g.length ≤ 1048576) (hl : ∀ k, k < g.length → (g.getD k []).length ≤ 1048576) :
    Calls Tryd.prog 16 #[v] w fun e w' => (∃ u, e = .returned u ∧ OwnL 40 (RowO IsInt 33 w.heap.size) w w' u g) ∧ Below w.heap.size w w' := by
  obtain ⟨ga, gc, rfl, hv⟩ := hv
  have HV := Lib.hid hv
  have HL := Lib.hid hl
  clear hv hl
  have hB := Below.refl w.heap.size w
  go_enter Tryd.func16, Tryd.ntmps16
  go_wp2
  go_loopw [3, 8] (fun v x wr => ∃ k : Nat, k ≤ g.length ∧ x = .int .i64 k ∧ Hid (OwnL 40 (RowO IsInt 33 w.heap.size) w wr v (g.take k))) (fun _ x _ => g.length - (intOf x).toNat)
  case atStart => exact ⟨0, Nat.zero_le _, rfl, Lib.hid (OwnL.nil _ _ hB)⟩
  case round =>
    obtain ⟨k, hk, rfl, hO⟩ := hrel
    have hBr := hO.out.bel
    have hlen : (g.take k).length = k := by rw [List.length_take]; omega
    have HLEN := Lib.hid hlen
    obtain ⟨va, vc, hvv⟩ := hO.out.ex
    rw [hlen] at hvv
    subst hvv
    clear hlen
    by_cases hlt : k < g.length
    · have hltI : (k : Int) < (g.length : Int) := by omega
      obtain ⟨gb, go, u, rfl, hu, hrow⟩ := HV.out k hlt
      have hr2 := hrow.keep hBr
      obtain ⟨ra, rc, rfl, -⟩ := hrow
      have hl3 := HL.out k hlt
      have HT := Lib.hid (take_getD [] hlt)
      have hu2 := bkeep hBr hu
      obtain ⟨l, hle⟩ : ∃ l, g.getD k [] = l := ⟨_, rfl⟩
      rw [hle] at hr2 hu2 hl3 HT
      have zu := cell_lt hu2
      have lc := fun W (q : Below wr.heap.size wr W) => list_c (.slice ra l.length rc) l W (hr2.keep q) (by omega)
      have LC := Lib.hid lc
      have hLL : ((g.take k).length + 1) * 24 ≤ 140737488355328 := by rw [HLEN.out]; omega
      have hLM : (g.take k).length + 1 ≤ maxLen := by rw [HLEN.out]; unfold maxLen; omega
      have hBw := Below.refl wr.heap.size wr
      clear hu hr2 hle lc
      go_wp2_with fail
      (with_reducible refine (LC.out _ ?_).mono ?_); (repeat (first | exact Below.refl _ _ | exact hBw | refine Below.drew ?_ | refine below_drewN ?_ _ | refine bset ?_ (by simp <;> omega) _ | refine bal ?_ _))
      rintro e w5 ⟨⟨v5, rfl, hr5⟩, hb5⟩
      have hb5' : Below wr.heap.size wr w5 := bthen belA hb5
      have HR5 := Lib.hid (show RowO IsInt 33 w.heap.size w5 v5 l from hr5.rebase (show w.heap.size ≤ _ from Nat.le_trans hBr.size (show Below wr.heap.size wr _ by repeat (first | exact Below.refl _ _ | exact hBw | refine Below.drew ?_ | refine below_drewN ?_ _ | refine bset ?_ (by simp <;> omega) _ | refine bal ?_ _)).size))
      have HO5 := Lib.hid (hO.out.below (prs_rowO lims_int _ _) hb5')
      obtain ⟨a5, c5, rfl⟩ := hr5.ex
      clear LC hr5 hb5 hO
      go_wp2_with (at_builtin; refine appL elRow (prs_rowO lims_int _ _) (by decide) (by rfl) (by rfl) (HO5.out.below (prs_rowO lims_int _ _) (bal (Below.refl _ _) _)) (HR5.out.keep lims_int (bal (Below.refl _ _) _)) (by rfl) (by rfl) (cell_new (by simp) rfl) hLL hLM ?_)
      intro v' w8 hO8 hk8
      have HO8 := Lib.hid hO8
      rw [← HT.out] at HO8
      clear hO8 hk8
      go_wp2
      exact ⟨⟨k + 1, hlt, by go_num, HO8⟩, meas hlt (by go_num) rfl⟩
    · obtain rfl : k = g.length := by omega
      rw [List.take_length] at hO
      go_wp2
      go_ret
      exact ⟨⟨_, rfl, hO.out⟩, hBr⟩
def MadePost (g : Grid) (w : World) (e : Ending) (w' : World) : Prop :=
  ((g.length ≤ 64 ∧ fitsE g = 0 ∧ ∃ v, e = .returned (.tuple #[v, .bool true]) ∧ IsM 0 w' v g) ∨ (¬ (g.length ≤ 64 ∧ fitsE g = 0) ∧ e = .returned (.tuple #[.agg #[.slice none 0 0], .bool false]))) ∧ Below w.heap.size w w'
set_option maxRecDepth 100000 in
set_option maxHeartbeats 4000000 in
theorem made5_c (v : Value) (g : Grid) (w : World) (hv : GridI w v g) (hl : ∀ k, k < g.length → (g.getD k []).length ≤ 1048576) (hgI : g.length ≤ 4611686018427387904) :
    Calls Tryd.prog 8 #[v] w (MadePost g w) := by
  have HV := Lib.hid hv
  have HL := Lib.hid hl
  obtain ⟨ga, gc, rfl, -⟩ := hv
  clear hl
  have hB := Below.refl w.heap.size w
  by_cases h64 : g.length ≤ 64
  · have hI : ¬ (64 : Int) < (g.length : Int) := by omega
    have rc := Lib.hid (fun W (q : Below w.heap.size w W) => rows5_c (.slice ga g.length gc) g W (HV.out.keep q) (by omega) HL.out)
    go_enter Tryd.func8, Tryd.ntmps8
    go_wp2_with fail
    (with_reducible refine (rc.out _ ?_).mono ?_); (repeat (first | exact Below.refl _ _ | exact hB | refine Below.drew ?_ | refine below_drewN ?_ _ | refine bset ?_ (by simp <;> omega) _ | refine bal ?_ _))
    rintro e w1 ⟨⟨u1, rfl, hu1⟩, hb1⟩
    have r0 : w1.cell? ⟨w.heap.size, 0, none⟩ = some (.slice none 0 0) := bkc hb1
    have zr0 := cell_lt r0
    have r0f : w1.frozen? ⟨w.heap.size, 0, none⟩ = false := bkcf (v := .slice none 0 0) hb1
    have hB : Below w.heap.size w w1 := bthen belA hb1
    have hz : w.heap.size ≤ w1.heap.size := hB.size
    have HU1 := Lib.hid (show IsL 40 (PRow 0) 0 w1 u1 g from (hu1.isL.mono fun u x h => h.row.rebase (Nat.zero_le _)).rebase (Nat.zero_le _))
    obtain ⟨a1, c1, rfl⟩ := hu1.ex
    have nc := Lib.hid (fun W (q : Below w1.heap.size w1 W) => newM_c (.slice a1 g.length c1) g W (HU1.out.keep (prs_prow 0) q) (fun i hi => Nat.le_trans (HL.out i hi) (by decide)))
    have hBw1 := Below.refl w1.heap.size w1
    clear rc hu1
    go_wp2_with fail
    (with_reducible refine (nc.out _ ?_).mono ?_); (repeat (first | exact Below.refl _ _ | exact hBw1 | refine Below.drew ?_ | refine below_drewN ?_ _ | refine bset ?_ (by simp <;> omega) _ | refine bal ?_ _))
    rintro e w2 ⟨(⟨hf, v2, rfl, hv2⟩ | ⟨hf, rfl⟩), hb2⟩
    ·
      have r0 : w2.cell? ⟨w.heap.size, 0, none⟩ = some (.slice none 0 0) := bkc hb2
      have zr0 := cell_lt r0
      have r0f : w2.frozen? ⟨w.heap.size, 0, none⟩ = false := bkcf (v := .slice none 0 0) hb2
      have hB : Below w.heap.size w w2 := bthen belA hb2
      have hz : w.heap.size ≤ w2.heap.size := hB.size
      have HV2 := Lib.hid (hv2.rebase (Nat.zero_le _))
      obtain ⟨a2, c2, rfl⟩ := hv2.lit
      have HF := Lib.hid hf
      clear nc hv2 hf
      have HT := Lib.hid (show typOf w1 w.heap.size = some 27 from typ_keep (typ_fresh rfl) hb1)
      have HT2 := typ_keep (typ_keep HT.out (show Below w1.heap.size w1 _ by repeat (first | exact Below.refl _ _ | exact hBw1 | refine Below.drew ?_ | refine below_drewN ?_ _ | refine bset ?_ (by simp <;> omega) _ | refine bal ?_ _))) hb2
      go_wp2
      refine bodyPost_ret (v := .tuple #[.agg #[.slice a2 g.length c2], .bool true]) (by simp [results, Tryd.results8, go_sem, *]) rfl ⟨.inl ⟨h64, HF.out, _, rfl, ?_⟩, ?_⟩
      · first | exact HV2.out.setM HT2 _ | exact (HV2.out.setM HT2 _).keep (bal (Below.refl _ _) _) | exact (HV2.out.keep (bal (Below.refl _ _) _)).setM (typ_keep HT2 (bal (Below.refl _ _) _)) _
      ·
        repeat (first | exact Below.refl _ _ | exact hB | refine Below.drew ?_ | refine below_drewN ?_ _ | refine bset ?_ (by simp <;> omega) _ | refine bal ?_ _)
    ·
      have r0 : w2.cell? ⟨w.heap.size, 0, none⟩ = some (.slice none 0 0) := bkc hb2
      have zr0 := cell_lt r0
      have r0f : w2.frozen? ⟨w.heap.size, 0, none⟩ = false := bkcf (v := .slice none 0 0) hb2
      have hB : Below w.heap.size w w2 := bthen belA hb2
      have hz : w.heap.size ≤ w2.heap.size := hB.size
      have hne : (fitsE g == 0) = false := by simpa using hf
      have HNO := Lib.hid (show ¬ (g.length ≤ 64 ∧ fitsE g = 0) from fun h => hf h.2)
      clear nc hf
      go_wp2
      refine bodyPost_ret (v := .tuple #[.agg #[.slice none 0 0], .bool false]) (by simp [results, Tryd.results8, go_sem, *]) rfl ⟨.inr ⟨HNO.out, rfl⟩, ?_⟩
      repeat (first | exact Below.refl _ _ | exact hB | refine Below.drew ?_ | refine below_drewN ?_ _ | refine bset ?_ (by simp <;> omega) _ | refine bal ?_ _)
  · have hI : (64 : Int) < (g.length : Int) := by omega
    have HNO := Lib.hid (show ¬ (g.length ≤ 64 ∧ fitsE g = 0) from fun h => h64 h.1)
    clear h64
    go_enter Tryd.func8, Tryd.ntmps8
    go_wp2
    refine bodyPost_ret (v := .tuple #[.agg #[.slice none 0 0], .bool false]) (by simp [results, Tryd.results8, go_sem, *]) rfl ⟨.inr ⟨HNO.out, rfl⟩, ?_⟩
    repeat (first | exact Below.refl _ _ | exact hB | refine Below.drew ?_ | refine below_drewN ?_ _ | refine bset ?_ (by simp <;> omega) _ | refine bal ?_ _)
end Go.Proofs.YthaohpfbengabaaDoor

