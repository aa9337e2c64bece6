/- Texts of this seat, laid together: VmQ, VmF. Each opens with its own remark, which says what it proves, and under which conditions. -/
import Derived.Test.YtannhpadoooedaaDoorG23
import Derived.Test.YtannhpadoooedaaDoorG35
import Derived.Deep.DrawnRows
import Derived.Deep.RegionLaw
import Derived.Deep.Cut
import Derived.Deep.DeepCutAuto
/- vm, in plain Lean: sums go to sums. -/
namespace Go.Proofs.YtannhpadoooedaaDoor
open Num
set_option linter.unusedVariables false
set_option linter.unusedSimpArgs false
def addR (a b : List Int) : List Int := List.zipWith (· + ·) a b
def addG (g h : Grid) : Grid := List.zipWith addR g h
theorem addR_len {a b : List Int} (h : a.length = b.length) : (addR a b).length = a.length := by simp [addR]; omega
theorem addR_get {a b : List Int} (h : a.length = b.length) (k : Nat) : (addR a b).getD k 0 = a.getD k 0 + b.getD k 0 := by
  unfold addR
  by_cases hk : k < a.length
  · have hk2 : k < b.length := by omega
    simp [List.getD_eq_getElem?_getD, List.getElem?_zipWith, hk, hk2]
  · have h2 : ¬ k < b.length := by omega
    simp [List.getD_eq_getElem?_getD, List.getElem?_zipWith, List.getElem?_eq_none (Nat.le_of_not_lt hk), List.getElem?_eq_none (Nat.le_of_not_lt h2)]
theorem addG_len {g h : Grid} (e : g.length = h.length) : (addG g h).length = g.length := by simp [addG]; omega
theorem addG_get {g h : Grid} (e : g.length = h.length) (k : Nat) : (addG g h).getD k [] = addR (g.getD k []) (h.getD k []) := by
  unfold addG
  by_cases hk : k < g.length
  · have hk2 : k < h.length := by omega
    simp [List.getD_eq_getElem?_getD, List.getElem?_zipWith, hk, hk2]
  · have h2 : ¬ k < h.length := by omega
    simp [List.getD_eq_getElem?_getD, List.getElem?_zipWith, List.getElem?_eq_none (Nat.le_of_not_lt hk), List.getElem?_eq_none (Nat.le_of_not_lt h2), addR]
theorem addG_set {g h : Grid} (e : g.length = h.length) (k : Nat) (r s : List Int) : addG (g.set k r) (h.set k s) = (addG g h).set k (addR r s) := by
  apply List.ext_getElem?
  intro j
  unfold addG
  simp only [List.getElem?_zipWith, List.getElem?_set]
  by_cases hj : k = j
  · subst hj
    simp only [if_true]
    by_cases hk : k < g.length
    · have : k < h.length := by omega
      have h3 : k < (List.zipWith addR g h).length := by simp; omega
      rw [if_pos hk, if_pos this, if_pos h3]
    · have : ¬ k < h.length := by omega
      have h3 : ¬ k < (List.zipWith addR g h).length := by simp; omega
      rw [if_neg hk, if_neg h3]
  · simp [hj]
theorem addG_snoc {g h : Grid} {k : Nat} (h1 : k < g.length) (h2 : k < h.length) : addG (g.take (k + 1)) (h.take (k + 1)) = addG (g.take k) (h.take k) ++ [addR g[k] h[k]] := by
  unfold addG
  rw [List.take_succ_eq_append_getElem h1, List.take_succ_eq_append_getElem h2, List.zipWith_append (by simp; omega)]
  rfl
theorem addG_rect {g h : Grid} {m : Nat} (e : g.length = h.length) (h1 : Rect m g) (h2 : Rect m h) : Rect m (addG g h) := by
  intro k hk
  rw [addG_len e] at hk
  rw [addG_get e, addR_len (by rw [h1 k hk, h2 k (by omega)]), h1 k hk]
theorem opI_add {i : Ins} {a b a' b' x y : Int} (h1 : opI i a b = some x) (h2 : opI i a' b' = some y) : opI i (a + a') (b + b') = some (x + y) := by
  unfold opI at *
  split at h1
  · rename_i e; rw [if_pos e] at h2 ⊢; cases h1; cases h2; congr 1; omega
  rename_i e2; rw [if_neg e2] at h2
  split at h1
  · rename_i e; rw [if_pos e] at h2 ⊢; cases h1; cases h2; rw [if_neg e2]; congr 1; omega
  rename_i e3; rw [if_neg e3] at h2
  split at h1
  · rename_i e; rw [if_pos e] at h2; cases h1; cases h2; rw [if_neg e2, if_neg e3, if_pos e]; congr 1; omega
  rename_i e4; rw [if_neg e4] at h2
  rw [if_neg e2, if_neg e3, if_neg e4]
  have hdiv : ∀ d : Int, a % d = 0 → a' % d = 0 → (a + a') % d = 0 ∧ (a + a') / d = a / d + a' / d := fun d k1 k2 => by
    have d1 := Int.dvd_of_emod_eq_zero k1
    have d2 := Int.dvd_of_emod_eq_zero k2
    exact ⟨Int.emod_eq_zero_of_dvd (Int.dvd_add d1 d2), Int.add_ediv_of_dvd_left d1⟩
  split at h1
  · rename_i e; rw [if_pos e] at h2 ⊢; cases h1; cases h2; rw [Int.add_mul]
  rename_i e5; rw [if_neg e5] at h2; rw [if_neg e5]
  split at h1
  · rename_i e; rw [if_pos e] at h2 ⊢
    split at h1
    · rename_i k1
      split at h2
      · rename_i k2
        cases h1; cases h2
        rw [if_pos (hdiv _ k1 k2).1, (hdiv _ k1 k2).2]
      · cases h2
    · cases h1
  rename_i e6; rw [if_neg e6] at h2; rw [if_neg e6]
  split at h1
  · rename_i e; rw [if_pos e] at h2 ⊢; cases h1; cases h2; rw [Int.add_mul]
  rename_i e7; rw [if_neg e7] at h2; rw [if_neg e7]
  split at h1
  · rename_i e; rw [if_pos e] at h2 ⊢
    split at h1
    · rename_i k1
      split at h2
      · rename_i k2
        cases h1; cases h2
        rw [if_pos (hdiv _ k1 k2).1, (hdiv _ k1 k2).2]
      · cases h2
    · cases h1
  rename_i e8; rw [if_neg e8] at h2; rw [if_neg e8]
  cases h1; cases h2; rfl
theorem stepR_add {i : Ins} {a b a' b' r s : List Int} (ha : a.length = a'.length) (hb : b.length = b'.length) (h1 : stepR i a b = some r) (h2 : stepR i a' b' = some s) : stepR i (addR a a') (addR b b') = some (addR r s) := by
  have l1 := stepR_len h1
  have l2 := stepR_len h2
  refine stepR_ext (by rw [addR_len (by omega), addR_len ha, l1]) fun k hk => ?_
  rw [addR_len ha] at hk
  rw [addR_get ha, addR_get hb, addR_get (by omega)]
  exact opI_add (stepR_get h1 k hk) (stepR_get h2 k (by omega))
theorem after_add {code : List Ins} {g g' : Grid} {m regs : Nat} (hl : g.length = regs) (hl' : g'.length = regs) (hr : Rect m g) (hr' : Rect m g')
    (ha : ∀ n, n < code.length → (code.getD n default).a.toNat < regs) (hb : ∀ n, n < code.length → (code.getD n default).b.toNat < regs) : ∀ {n : Nat} {h k : Grid}, n ≤ code.length → after code g n = some h → after code g' n = some k → after code (addG g g') n = some (addG h k) := by
  intro n
  induction n with
  | zero => intro h k _ e1 e2; cases e1; cases e2; rfl
  | succ n ih =>
    intro h k hn e1 e2
    unfold after at e1 e2 ⊢
    cases f1 : after code g n with
    | none => rw [f1] at e1; cases e1
    | some h1 =>
      cases f2 : after code g' n with
      | none => rw [f2] at e2; cases e2
      | some k1 =>
        rw [f1, Option.bind_some] at e1
        rw [f2, Option.bind_some] at e2
        rw [ih (by omega) f1 f2, Option.bind_some]
        obtain ⟨r, hr1, rfl⟩ := Option.map_eq_some_iff.1 e1
        obtain ⟨s, hs1, rfl⟩ := Option.map_eq_some_iff.1 e2
        have L1 : h1.length = regs := (after_len f1).trans hl
        have L2 : k1.length = regs := (after_len f2).trans hl'
        have R1 := after_rect hr hl ha (by omega) f1
        have R2 := after_rect hr' hl' ha (by omega) f2
        have A := ha n (by omega)
        have B := hb n (by omega)
        rw [addG_get (by omega), addG_get (by omega), stepR_add (by rw [R1 _ (by omega), R2 _ (by omega)]) (by rw [R1 _ (by omega), R2 _ (by omega)]) hr1 hs1, addG_set (by omega)]
        rfl
theorem startG_len {g : Grid} {regs n : Nat} (h : g.length ≤ regs) : (startG g regs n).length = regs := by simp [startG]; omega
theorem startG_rect {g : Grid} {regs n : Nat} (h : Rect n g) : Rect n (startG g regs n) := by
  intro k hk
  unfold startG at hk ⊢
  by_cases e : k < g.length
  · have := h k e
    simp [List.getD_eq_getElem?_getD, List.getElem?_append_left e] at this ⊢; exact this
  · simp [List.length_append] at hk
    simp [List.getD_eq_getElem?_getD, List.getElem?_append_right (Nat.le_of_not_lt e), show k - g.length < regs - g.length by omega]
theorem addR_rep (n : Nat) : addR (List.replicate n 0) (List.replicate n 0) = List.replicate n 0 := by simp [addR]
theorem startG_add {g h : Grid} {regs n : Nat} (e : g.length = h.length) : addG (startG g regs n) (startG h regs n) = startG (addG g h) regs n := by
  unfold startG addG
  rw [List.zipWith_append e, ← e]
  congr 1
  have : (List.zipWith addR g h).length = g.length := by simp; omega
  rw [this]
  simp [addR_rep]
theorem startG_bd {k : Nat} {g : Grid} {regs n : Nat} (h : BdG k g) : BdG k (startG g regs n) := by
  intro i j
  unfold startG
  by_cases e : i < g.length
  · have := h i j
    simp [List.getD_eq_getElem?_getD, List.getElem?_append_left e] at this ⊢; exact this
  · have e2 : (g ++ List.replicate (regs - g.length) (List.replicate n (0 : Int))).getD i [] = (List.replicate (regs - g.length) (List.replicate n (0 : Int))).getD (i - g.length) [] := by
      simp [List.getD_eq_getElem?_getD, List.getElem?_append_right (Nat.le_of_not_lt e)]
    rw [e2]
    have : ((List.replicate (regs - g.length) (List.replicate n (0 : Int))).getD (i - g.length) []).getD j 0 = 0 := by
      simp only [List.getD_eq_getElem?_getD, List.getElem?_replicate]
      split
      · simp only [Option.getD_some, List.getElem?_replicate]
        split <;> rfl
      · simp
    rw [this]; exact bd_zero
theorem outsG_add {h k : Grid} (e : h.length = k.length) (outs : List Int) : addG (outsG outs h) (outsG outs k) = outsG outs (addG h k) := by
  unfold outsG
  apply List.ext_getElem?
  intro j
  unfold addG
  simp only [List.getElem?_zipWith, List.getElem?_map]
  cases outs[j]? with
  | none => rfl
  | some o =>
    have := addG_get e o.toNat
    unfold addG at this
    simp only [Option.map_some]
    rw [this]
end Go.Proofs.YtannhpadoooedaaDoor
/- vm: New. -/
namespace Go.Proofs.YtannhpadoooedaaDoor
open Num
open Go.ChangeShapes Go.WideShapes Go.ChangeAt Go.RowKit
set_option linter.unusedVariables false
set_option linter.unusedSimpArgs false
attribute [local go_sem ↓] Go.wp_at_zero Go.wp_at_succ
/-- blocks fit a program -/
structure FitsG (ins : Int) (g : Grid) : Prop where
  len : (g.length : Int) = ins
  rect : Rect (g.getD 0 []).length g
  m : (g.getD 0 []).length ≤ 4096
/-- what New answers -/
def NewPost (ins regs : Int) (code : List Ins) (outs : List Int) (g : Grid) (w : World) (e : Ending) (w' : World) : Prop :=
  ((¬ ProgOk ins regs code outs ∧ e = .returned (.tuple #[.pointer none, .int .i64 80])) ∨
   (ProgOk ins regs code outs ∧ ¬ FitsG ins g ∧ e = .returned (.tuple #[.pointer none, .int .i64 5])) ∨
   (ProgOk ins regs code outs ∧ FitsG ins g ∧ ∃ b rb rc, e = .returned (.tuple #[.pointer (some ⟨b, 0, none⟩), .int .i64 0]) ∧ Mach w.heap.size w' b rb rc ins regs code outs (startG g regs.toNat (g.getD 0 []).length) 0)) ∧ Below w.heap.size w w'
abbrev GridV (w : World) (v : Value) (g : Grid) : Prop := IsL 31 (PRow 0) 0 w v g
set_option maxRecDepth 100000 in
set_option maxHeartbeats 16000000 in
theorem new_c (ins regs : Int) (ca oa : Option Addr) (cc oc : Nat) (code : List Ins) (outs : List Int) (vg : Value) (g : Grid) (w : World) (hc : InsV w ca cc code) (ho : IntsV w oa oc outs) (hcn : ca = none → code = []) (hon : oa = none → outs = []) (hg : GridV w vg g)
    (h1 : code.length ≤ 1099511627776) (h2 : outs.length ≤ 1099511627776) (h3 : g.length ≤ 4398046511104) :
    Calls Tryd.prog 16 #[.agg #[.int .i64 ins, .int .i64 regs, .slice ca code.length cc, .slice oa outs.length oc], vg] w (NewPost ins regs code outs g w) := by
  have kc := fun W (h : Below w.heap.size w W) => check_c ins regs ca oa cc oc code outs W (hc.keep h) (ho.keep h)
  have kp := fun W (h : Below w.heap.size w W) => copy_c ins regs ca oa cc oc code outs W (hc.keep h) (ho.keep h) hcn hon h1 h2
  clear hc ho hcn hon h1 h2
  obtain ⟨ga, gc, rfl, hgc, hv⟩ := hg.view
  have HV := Lib.hid hv
  clear hg hv
  have hB := Below.refl w.heap.size w
  go_enter Tryd.func16, Tryd.ntmps16
  go_wp2_with fail
  refine (kc _ (by repeat (first | exact Below.refl _ _ | exact hB | refine Below.drew ?_ | refine below_drewN ?_ _ | refine bset ?_ (by simp <;> omega) _ | refine bal ?_ _))).mono ?_
  rintro e w1 ⟨r, s, rfl, hp, hb1⟩
  have p0 : w1.cell? ⟨w.heap.size, 0, none⟩ = some (.int .i64 ins) := bkeep hb1 (by first | assumption | exact cell_new (by with_reducible first | rfl | (simp; done) | (simp; omega)) rfl | (repeat (first | assumption | exact cell_new (by with_reducible first | rfl | (simp; done) | (simp; omega)) rfl | refine cell_alloc ?_ _ | refine cell_drew ?_ | refine cell_drewN ?_ _ | refine cell_far ?_ (by simp) _ | (refine cell_far ?_ (by simp <;> omega) _))) | simp [go_sem, *])
  have zp0 := cell_lt p0
  have p1 : w1.cell? ⟨w.heap.size, 1, none⟩ = some (.int .i64 regs) := bkeep hb1 (by first | assumption | exact cell_new (by with_reducible first | rfl | (simp; done) | (simp; omega)) rfl | (repeat (first | assumption | exact cell_new (by with_reducible first | rfl | (simp; done) | (simp; omega)) rfl | refine cell_alloc ?_ _ | refine cell_drew ?_ | refine cell_drewN ?_ _ | refine cell_far ?_ (by simp) _ | (refine cell_far ?_ (by simp <;> omega) _))) | simp [go_sem, *])
  have p2 : w1.cell? ⟨w.heap.size, 2, none⟩ = some (.slice ca code.length cc) := bkeep hb1 (by first | assumption | exact cell_new (by with_reducible first | rfl | (simp; done) | (simp; omega)) rfl | (repeat (first | assumption | exact cell_new (by with_reducible first | rfl | (simp; done) | (simp; omega)) rfl | refine cell_alloc ?_ _ | refine cell_drew ?_ | refine cell_drewN ?_ _ | refine cell_far ?_ (by simp) _ | (refine cell_far ?_ (by simp <;> omega) _))) | simp [go_sem, *])
  have p3 : w1.cell? ⟨w.heap.size, 3, none⟩ = some (.slice oa outs.length oc) := bkeep hb1 (by first | assumption | exact cell_new (by with_reducible first | rfl | (simp; done) | (simp; omega)) rfl | (repeat (first | assumption | exact cell_new (by with_reducible first | rfl | (simp; done) | (simp; omega)) rfl | refine cell_alloc ?_ _ | refine cell_drew ?_ | refine cell_drewN ?_ _ | refine cell_far ?_ (by simp) _ | (refine cell_far ?_ (by simp <;> omega) _))) | simp [go_sem, *])
  have hB : Below w.heap.size w w1 := bthen (by repeat (first | exact Below.refl _ _ | exact hB | refine Below.drew ?_ | refine below_drewN ?_ _ | refine bset ?_ (by simp <;> omega) _ | refine bal ?_ _)) hb1
  have hz : w.heap.size ≤ w1.heap.size := hB.size
  have HT1 : Hid (typOf w1 w.heap.size = some 25) := Lib.hid (typ_keep (by unfold typOf; rw [(MapKept.heap_alloc w _).1]) hb1)
  clear kc
  rcases hp with ⟨hok, rfl, rfl⟩ | ⟨hno, rfl⟩
  · have HOK := Lib.hid hok
    clear hok
    by_cases hl : (g.length : Int) = ins
    · subst hl
      have h0 : 0 < g.length := by have := HOK.out.i1; omega
      obtain ⟨gb, go, u0, rfl, hu0, hr0⟩ := HV.out 0 h0
      obtain ⟨a0, x0, rfl, -⟩ := hr0
      rw [Nat.add_zero] at hu0
      have hu := bkeep hB hu0
      have hll : ((g.length : Int) != (g.length : Int)) = false := by simp
      have hgp : (0 : Int) < (g.length : Int) := by omega
      obtain ⟨m, hm⟩ : ∃ m, (g[0]'h0).length = m := ⟨_, rfl⟩
      rw [hm] at hu
      have HM := Lib.hid hm
      clear hm hu0
      go_wp2_with fail
      refine (kp _ (by repeat (first | exact Below.refl _ _ | exact hB | refine Below.drew ?_ | refine below_drewN ?_ _ | refine bset ?_ (by simp <;> omega) _ | refine bal ?_ _))).mono ?_
      rintro e w2 ⟨⟨ca', cc', oa', oc', rfl, hc2, ho2, hf2, hfo2⟩, hb2⟩
      have HMP := Lib.hid (show MachP w.heap.size (w2.alloc (.cells #[.int .i64 (g.length : Int), .int .i64 regs, .slice ca' code.length cc', .slice oa' outs.length oc', .slice none 0 0, .int .i64 0] 79)) w2.heap.size w.heap.size g.length regs code outs (.slice none 0 0) from by
        have ka : Below w2.heap.size w2 (w2.alloc (.cells #[.int .i64 (g.length : Int), .int .i64 regs, .slice ca' code.length cc', .slice oa' outs.length oc', .slice none 0 0, .int .i64 0] 79)) := bal (Below.refl _ _) _
        have hs2 := hB.size
        have hs3 := hb2.size
        exact ⟨⟨ca', cc', oa', oc', cell_new rfl rfl, cell_new rfl rfl, hc2.keep ka, ho2.keep ka, (hf2.keep ka).mono hs2, (hfo2.keep ka).mono hs2⟩, cell_new rfl rfl, cell_new rfl rfl, cell_new rfl rfl, cell_new rfl rfl, Free.new rfl, by unfold typOf; rw [(MapKept.heap_alloc w2 _).1], by omega, bkeep ka (bkeep hb2 p1), typ_keep (typ_keep (w := w1) HT1.out hb2) ka⟩)
      have hBB := bthen hB hb2
      clear hc2 ho2 hf2 hfo2 p0 p1 p2 p3 kp
      go_wp2
      refine wp_name fun w3 hW3 => ?_
      have HMP3 : Hid (MachP w.heap.size w3 w2.heap.size w.heap.size g.length regs code outs (.slice none 0 0)) := Lib.hid (by rw [hW3]; exact HMP.out)
      have hB3 : Below w.heap.size w w3 := by rw [hW3]; exact bal hBB _
      clear hW3 HMP
      go_loopw [35] (fun x wr => ∃ k : Nat, k ≤ g.length ∧ x = .int .i64 k ∧ Hid (∃ rv, MachP w.heap.size wr w2.heap.size w.heap.size g.length regs code outs rv ∧ OwnL 31 (RowO IsInt 34 w.heap.size) w wr rv (g.take k)) ∧ Hid (∀ j (hj : j < g.length), j < k → g[j].length = m ∧ m ≤ 4096)) (fun x _ => g.length - (intOf x).toNat)
      case atStart => exact ⟨0, Nat.zero_le _, rfl, Lib.hid ⟨_, HMP3.out, OwnL.nil _ _ hB3⟩, Lib.hid (fun j _ hj => by omega)⟩
      case round =>
        obtain ⟨k, hk, rfl, hrel, hall⟩ := hrel
        by_cases hlt : k < g.length
        · obtain ⟨rv, hM, hO⟩ := hrel.out
          obtain ⟨gb2, go2, u, hge, hu, hrow⟩ := HV.out k hlt
          cases hge
          have HROW := Lib.hid hrow
          obtain ⟨ar, xr, rfl, -⟩ := hrow
          have hur := bkeep hO.bel hu
          obtain ⟨lk, hlk⟩ : ∃ n, (g[k]'hlt).length = n := ⟨_, rfl⟩
          rw [hlk] at hur
          have HLK := Lib.hid hlk
          have hltI : (k : Int) < (g.length : Int) := by omega
          clear hu hlk
          by_cases e1 : lk = m
          · subst e1
            by_cases e2 : lk ≤ 4096
            · have hq1 : ((lk : Int) != (lk : Int)) = false := by simp
              have hq2 : decide ((4096 : Int) < (lk : Int)) = false := by simp; omega
              have HAL := Lib.hid (show ∀ j (hj : j < g.length), j < k + 1 → g[j].length = lk ∧ lk ≤ 4096 from fun j hj hjk => by
                by_cases e : j = k
                · subst e; exact ⟨HLK.out, e2⟩
                · exact hall.out j hj (by omega))
              have kcl := fun W (h : Below wr.heap.size wr W) => cloneRow_c 0 _ g[k] W ((HROW.out.keep lims_int hO.bel).keep lims_int h) (by rw [HLK.out]; omega)
              rw [HLK.out] at kcl
              have hlen : (g.take k).length = k := by rw [List.length_take]; omega
              obtain ⟨ra, rcp, hrv⟩ := hO.ex
              rw [hlen] at hrv
              subst hrv
              have HMM := Lib.hid hM
              have HOO := Lib.hid hO
              have c4 := hM.c4
              have f4 := hM.free.2 4
              have HLEN := Lib.hid hlen
              have hz2 : w2.heap.size < wr.heap.size := cell_lt c4
              clear hM hO hlen
              go_upto_region 13 with (fail)
              have hBw := Below.refl wr.heap.size wr
              go_region_law (first
                | (refine stepL elRow (prs_rowO lims_int _ _) (by decide) (by rfl) (by rfl) (HO5.out.below (prs_rowO lims_int _ _) (bal (Below.refl _ _) _)) ((prs_rowO lims_int _ _).kp (HR5.out.rebase hwb) (Kp.of_below _ (bal (Below.refl _ _) _))) (by rfl) (by rfl) (cell_new rfl rfl) (by rw [HLEN.out]; omega) (by rw [HLEN.out]; unfold maxLen; omega) ?_; intro v' w8 hO8 hk8; have HO8 := Lib.hid hO8; have HM8 := Lib.hid ((HM5.out.keep (bal (Below.refl _ _) _)).kp hk8); have d4 := HM8.out.c4; have df4 := HM8.out.free.2 4; obtain ⟨a8, c8, hv8⟩ := hO8.ex; rw [List.length_append, HLEN.out] at hv8; subst hv8; clear hO8 hk8)
                | (go_simp; go_wp2_with (go_at_call 42; refine (kcl _ ?_).mono ?_; (repeat (first | exact Below.refl _ _ | exact hBw | refine Below.drew ?_ | refine below_drewN ?_ _ | refine bset ?_ (by simp <;> omega) _ | refine bal ?_ _)); rintro e w5 ⟨⟨v5, rfl, hr5⟩, hb5⟩; have hB5 : Below wr.heap.size wr w5 := bthen (by repeat (first | exact Below.refl _ _ | exact hBw | refine Below.drew ?_ | refine below_drewN ?_ _ | refine bset ?_ (by simp <;> omega) _ | refine bal ?_ _)) hb5; have HR5 := Lib.hid hr5; have HM5 := Lib.hid (HMM.out.keep hB5); have HO5 := Lib.hid (HOO.out.below (prs_rowO lims_int _ _) hB5); have b4 := bkeep hB5 c4; have hz5 : w2.heap.size < w5.heap.size := Nat.lt_of_lt_of_le hz2 hB5.size; have hwb : w.heap.size ≤ wr.heap.size := HOO.out.bel.size; obtain ⟨a5, c5, rfl⟩ := hr5.ex)))
              all_goals
                have HEND := Lib.hid (show ∃ rv, MachP w.heap.size (w8.setCell ⟨w2.heap.size, 4, none⟩ (.slice a8 (k + 1) c8)) w2.heap.size w.heap.size g.length regs code outs rv ∧ OwnL 31 (RowO IsInt 34 w.heap.size) w (w8.setCell ⟨w2.heap.size, 4, none⟩ (.slice a8 (k + 1) c8)) rv (g.take (k + 1)) from
                  ⟨_, HM8.out.set4 _, by rw [List.take_succ_eq_append_getElem hlt]; exact HO8.out.set (prs_rowO lims_int _ _) HM8.out.ty (by decide) (by decide) HM8.out.lo _⟩)
                go_wp2
                exact ⟨⟨k + 1, by omega, by go_num, HEND, HAL⟩, by simp [intOf]; omega⟩
            · have hq1 : ((lk : Int) != (lk : Int)) = false := by simp
              have hq2 : decide ((4096 : Int) < (lk : Int)) = true := by simp; omega
              have HNF := Lib.hid (show ¬ FitsG g.length g from fun f => by
                have h5 := f.m
                rw [show g.getD 0 [] = g[0] by simp [h0], HM.out] at h5; omega)
              have hBw := hO.bel
              clear hM hO
              go_wp2
              go_ret2
              exact ⟨.inr (.inl ⟨HOK.out, HNF.out, rfl⟩), by repeat (first | exact Below.refl _ _ | exact hBw | refine Below.drew ?_ | refine below_drewN ?_ _ | refine bset ?_ (by simp <;> omega) _ | refine bal ?_ _)⟩
          · have hq1 : ((lk : Int) != (m : Int)) = true := by simp; omega
            have HNF := Lib.hid (show ¬ FitsG g.length g from fun f => by
              have h5 := f.rect k hlt
              rw [show g.getD 0 [] = g[0] by simp [h0], HM.out, show g.getD k [] = g[k] by simp [hlt], HLK.out] at h5; omega)
            have hBw := hO.bel
            clear hM hO
            go_wp2
            go_ret2
            exact ⟨.inr (.inl ⟨HOK.out, HNF.out, rfl⟩), by repeat (first | exact Below.refl _ _ | exact hBw | refine Below.drew ?_ | refine below_drewN ?_ _ | refine bset ?_ (by simp <;> omega) _ | refine bal ?_ _)⟩
        · obtain rfl : k = g.length := by omega
          obtain ⟨rv, hM, hO⟩ := hrel.out
          rw [List.take_length] at hO
          have hm4 : m ≤ 4096 := (hall.out 0 h0 h0).2
          have HFIT := Lib.hid (show FitsG g.length g from ⟨rfl, fun j hj => by
            rw [show g.getD 0 [] = g[0] by simp [h0], HM.out, show g.getD j [] = g[j] by simp [hj]]; exact (hall.out j hj hj).1, by rw [show g.getD 0 [] = g[0] by simp [h0], HM.out]; exact hm4⟩)
          have HMM := Lib.hid hM
          have HOO := Lib.hid hO
          have hmk := mkInts m (by omega)
          obtain ⟨R, hR⟩ : ∃ R : Nat, regs = R := ⟨regs.toNat, by have := HOK.out.i1; have := HOK.out.i2; omega⟩
          subst hR
          have hgR : g.length ≤ R := by have := HOK.out.i2; omega
          have hR128 : R ≤ 128 := by have := HOK.out.r1; omega
          clear hM hO hall hrel
          go_wp2
          go_loopg [] (R - g.length) (fun gk wq => ∃ j : Nat, j ≤ R - g.length ∧ gk = R - g.length - j ∧ Hid (∃ rv, MachP w.heap.size wq w2.heap.size w.heap.size g.length R code outs rv ∧ OwnL 31 (RowO IsInt 34 w.heap.size) w wq rv (g ++ List.replicate j (List.replicate m 0))))
          case atStart => exact ⟨0, Nat.zero_le _, by omega, Lib.hid ⟨_, HMM.out, by simpa using HOO.out⟩⟩
          case round =>
            obtain ⟨j, hj, hgk, hrel⟩ := hrel
            obtain ⟨rv, hM, hO⟩ := hrel.out
            have hlen : (g ++ List.replicate j (List.replicate m (0 : Int))).length = g.length + j := by simp
            obtain ⟨ra, rcp, hrv⟩ := hO.ex
            rw [hlen] at hrv
            subst hrv
            have HM1 := Lib.hid hM
            have HO1 := Lib.hid hO
            have HLEN := Lib.hid hlen
            have c4 := hM.c4
            have p1 := hM.p1
            have hz2 : w2.heap.size < wr.heap.size := cell_lt c4
            have hBr := hO.bel
            have hjR : ((g.length + j : Nat) : Int) ≤ 128 := by omega
            clear hM hO hlen hrel
            by_cases hlt : j < R - g.length
            · have ht : decide (g.length + j < R) = true := by simp; omega
              have hBw := Below.refl wr.heap.size wr
              go_wp2
              go_quiet (fail)
              go_wp2
              refine wp_name fun wa hWa => ?_
              have hBa : Below wr.heap.size wr wa := by rw [hWa]; repeat (first | exact Below.refl _ _ | exact hBw | refine Below.drew ?_ | refine below_drewN ?_ _ | refine bset ?_ (by simp <;> omega) _ | refine bal ?_ _)
              have HMa := Lib.hid (HM1.out.keep hBa)
              have HOa := Lib.hid (HO1.out.below (prs_rowO lims_int _ _) hBa)
              clear hWa c4
              have c4 := HMa.out.c4
              have hz3 : w2.heap.size < wa.heap.size := cell_lt c4
              have hz4 : w.heap.size ≤ wa.heap.size := HOa.out.bel.size
              have HRm := Lib.hid ((RowO.make wa m (by unfold maxLen; omega)).rebase hz4)
              go_region_law (first
                | (refine stepL elRow (prs_rowO lims_int _ _) (by decide) (by rfl) (by rfl) (HOa.out.below (prs_rowO lims_int _ _) (bal (bal (Below.refl _ _) _) _).drew) (HRm.out.keep lims_int (bal (Below.refl _ _) _).drew) (by rfl) (by rfl) (cell_drew (cell_new (by simp) rfl)) (by rw [HLEN.out]; omega) (by rw [HLEN.out]; unfold maxLen; omega) ?_; intro v' w8 hO8 hk8; have HO8 := Lib.hid hO8; have HM8 := Lib.hid ((HMa.out.keep (bal (bal (Below.refl _ _) _) _).drew).kp hk8); have d4 := HM8.out.c4; have df4 := HM8.out.free.2 4; obtain ⟨a8, c8, hv8⟩ := hO8.ex; rw [List.length_append, HLEN.out] at hv8; subst hv8; clear hO8 hk8)
                | fail)
              all_goals
                have HEND := Lib.hid (show ∃ rv, MachP w.heap.size (w8.setCell ⟨w2.heap.size, 4, none⟩ (.slice a8 (g.length + j + 1) c8)) w2.heap.size w.heap.size g.length R code outs rv ∧ OwnL 31 (RowO IsInt 34 w.heap.size) w (w8.setCell ⟨w2.heap.size, 4, none⟩ (.slice a8 (g.length + j + 1) c8)) rv (g ++ List.replicate (j + 1) (List.replicate m 0)) from
                  ⟨_, HM8.out.set4 _, by rw [List.replicate_succ', ← List.append_assoc]; exact HO8.out.set (prs_rowO lims_int _ _) HM8.out.ty (by decide) (by decide) HM8.out.lo _⟩)
                go_wp2
                go_roundg (R - g.length - (j + 1))
                case measure => omega
                case rel => exact ⟨j + 1, by omega, rfl, HEND⟩
            · obtain rfl : j = R - g.length := by omega
              have ht : decide (g.length + (R - g.length) < R) = false := by simp; omega
              have hBw := Below.refl wr.heap.size wr
              have hz4 := HO1.out.bel
              go_wp2
              go_quiet (fail)
              go_wp2
              go_ret2
              refine ⟨.inr (.inr ⟨HOK.out, HFIT.out, ?_⟩), bthen hz4 (by repeat (first | exact Below.refl _ _ | exact hBw | refine Below.drew ?_ | refine below_drewN ?_ _ | refine bset ?_ (by simp <;> omega) _ | refine bal ?_ _))⟩
              obtain ⟨rb, rc, hmach⟩ := HM1.out.mach HO1.out (by rw [HLEN.out]; omega)
              refine ⟨_, rb, rc, rfl, ?_⟩
              rw [Int.toNat_natCast, show g.getD 0 [] = g[0] by simp [h0], HM.out]
              exact hmach.keep (by repeat (first | exact Below.refl _ _ | exact hBw | refine Below.drew ?_ | refine below_drewN ?_ _ | refine bset ?_ (by simp <;> omega) _ | refine bal ?_ _))
    · have hll : ((g.length : Int) != ins) = true := by simp; omega
      have HNF := Lib.hid (show ¬ FitsG ins g from fun f => hl f.len)
      go_wp2
      go_ret2
      exact ⟨.inr (.inl ⟨HOK.out, HNF.out, rfl⟩), by repeat (first | exact Below.refl _ _ | exact hB | refine Below.drew ?_ | refine below_drewN ?_ _ | refine bset ?_ (by simp <;> omega) _ | refine bal ?_ _)⟩
  · have HNO := Lib.hid hno
    clear hno
    go_wp2
    go_ret2
    exact ⟨.inl ⟨HNO.out, rfl⟩, by repeat (first | exact Below.refl _ _ | exact hB | refine Below.drew ?_ | refine below_drewN ?_ _ | refine bset ?_ (by simp <;> omega) _ | refine bal ?_ _)⟩
end Go.Proofs.YtannhpadoooedaaDoor
