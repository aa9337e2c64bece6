/- Texts of this seat, laid together: ExF, ExG, RtB, RtC, RwF, VwG, VwR. Each opens with its own remark, which says what it proves, and under which conditions. -/
import Derived.Test.YtdllbdfchloijaaDoorK15
import Derived.Test.YtdllbdfchloijaaDoorK12
import Derived.Test.YtdllbdfchloijaaDoorK11
import Derived.Test.YtdllbdfchloijaaDoorK13
import Derived.Test.YtdllbdfchloijaaDoorK09
import Derived.Test.YtdllbdfchloijaaDoorK05
import Derived.Test.YtdllbdfchloijaaDoorK14
set_option linter.unusedVariables false
set_option linter.unusedSimpArgs false
/- exact: how rows are calculated with; what an instruction does to rows (do). -/
namespace Go.Proofs.YtdllbdfchloijaaDoor
open Num
open Go.ChangeShapes Go.WideShapes Go.ChangeAt Go.RowKit
set_option linter.unusedVariables false
set_option linter.unusedSimpArgs false
attribute [local go_sem ↓] Go.wp_at_zero Go.wp_at_succ
theorem zip_getD {f : Int → Int → Int} {a b : List Int} {k : Nat} (h1 : k < a.length) (h2 : k < b.length) : (List.zipWith f a b).getD k 0 = f (a.getD k 0) (b.getD k 0) := by
  simp [List.getD_eq_getElem?_getD, List.getElem?_zipWith, h1, h2]
theorem stepR_map {i : Ins} {a b : List Int} (g : Int → Int) (h : ∀ k, k < a.length → opI i (a.getD k 0) (b.getD k 0) = some (g (a.getD k 0))) : stepR i a b = some (a.map g) :=
  stepR_ext (by simp) fun k hk => by rw [h k hk, map_getD g hk]
theorem stepR_zip {i : Ins} {a b : List Int} (g : Int → Int → Int) (he : a.length = b.length) (h : ∀ k, k < a.length → opI i (a.getD k 0) (b.getD k 0) = some (g (a.getD k 0) (b.getD k 0))) : stepR i a b = some (List.zipWith g a b) :=
  stepR_ext (by simp; omega) fun k hk => by rw [h k hk, zip_getD hk (by omega)]
theorem stepR_self {i : Ins} {a b : List Int} (h : ∀ k, k < a.length → opI i (a.getD k 0) (b.getD k 0) = some (a.getD k 0)) : stepR i a b = some a := stepR_ext rfl h
/-- a slice value's block -/
def rowBlk : Value → Option Nat
  | .slice (some p) _ _ => some p.block
  | _ => none
theorem rowO_blk {base q : Nat} {w : World} {v : Value} {l : List Int} (h : RowO IsInt 31 base w v l) (hq : rowBlk v = some q) : base ≤ q ∧ typOf w q = some 31 := by
  obtain ⟨xs, ⟨_, h1⟩, _⟩ := h
  rcases h1 with ⟨rfl, _⟩ | ⟨g, cap, cur, rfl, hg, hh, _⟩
  · simp [rowBlk] at hq
  · simp [rowBlk] at hq
    subst hq
    exact ⟨hg, by unfold typOf; rw [hh]⟩
/-- answers a row (that is ua, or lies in a block of its own) and true, or something and false -/
def AnsL (ua : Value) (z : Option (List Int)) (w : World) (e : Ending) (w' : World) : Prop :=
  (match z with
    | some r => ∃ v, e = .returned (.tuple #[v, .bool true]) ∧ PRow 0 w' v r ∧ (v = ua ∨ PRow w.heap.size w' v r)
    | none => ∃ a n c, e = .returned (.tuple #[.slice a n c, .bool false])) ∧ Below w.heap.size w w'
theorem ansL_some {ua : Value} {z : Option (List Int)} {x : List Int} {v : Value} {w w' : World} (h : z = some x) (hv : PRow w.heap.size w' v x) (hb : Below w.heap.size w w') : AnsL ua z w (.returned (.tuple #[v, .bool true])) w' := by
  subst h; exact ⟨⟨v, rfl, hv.rebase (Nat.zero_le _), .inr hv⟩, hb⟩
theorem ansL_self {ua : Value} {z : Option (List Int)} {x : List Int} {w w' : World} (h : z = some x) (hv : PRow 0 w' ua x) (hb : Below w.heap.size w w') : AnsL ua z w (.returned (.tuple #[ua, .bool true])) w' := by
  subst h; exact ⟨⟨ua, rfl, hv, .inl rfl⟩, hb⟩
theorem ansL_none {ua : Value} {z : Option (List Int)} {a : Option Addr} {n c : Nat} {w w' : World} (h : z = none) (hb : Below w.heap.size w w') : AnsL ua z w (.returned (.tuple #[.slice a n c, .bool false])) w' := by
  subst h; exact ⟨⟨a, n, c, rfl⟩, hb⟩
theorem ansL_b {ua : Value} {z : Option (List Int)} {x : List Int} {a : Option Addr} {n c : Nat} {b : Bool} {w w' : World} (h : (b = true → z = some x ∧ PRow w.heap.size w' (.slice a n c) x) ∧ (b = false → z = none)) (hb : Below w.heap.size w w') : AnsL ua z w (.returned (.tuple #[.slice a n c, .bool b])) w' := by
  cases b with
  | true => exact ansL_some (h.1 rfl).1 (h.1 rfl).2 hb
  | false => exact ansL_none (h.2 rfl) hb
theorem rowAdd_c' (la lb : List Int) (k : Nat) (w : World) (he : la.length = lb.length) (ba : ∀ j, Bd k (la.getD j 0)) (bb : ∀ j, Bd k (lb.getD j 0)) (hk : k ≤ 17179869184) :
    ∀ j W1 u1 u2, j < la.length → Below w.heap.size w W1 → IsInt W1 u1 (la.getD j 0) → IsInt W1 u2 (lb.getD j 0) → Calls Tryd.prog 9 (#[] ++ #[u1, u2] ++ #[]) W1 fun e w' => (∃ v, e = .returned v ∧ IsInt w' v ((List.zipWith (fun x y => x + y) la lb).getD j 0)) ∧ Below W1.heap.size W1 w' := by
  intro j W1 u1 u2 hj _ h1 h2
  have hc := addI_c u1 u2 (la.getD j 0) (lb.getD j 0) k W1 h1 h2 (ba j) (bb j) hk
  have hz : (List.zipWith (fun x y => x + y) la lb).getD j 0 = la.getD j 0 + lb.getD j 0 := zip_getD hj (by omega)
  rw [hz]
  exact hc
set_option maxRecDepth 100000 in
set_option maxHeartbeats 2000000 in
theorem rowAdd_c (va vb : Value) (la lb : List Int) (k : Nat) (w : World) (ha : PRow 0 w va la) (hb : PRow 0 w vb lb) (hl : la.length ≤ 1099511627775) (he : la.length = lb.length) (ba : ∀ j, Bd k (la.getD j 0)) (bb : ∀ j, Bd k (lb.getD j 0)) (hk : k ≤ 17179869184) :
    Calls Tryd.prog 64 #[va, vb] w fun e w' => (∃ u, e = .returned (.tuple #[u, .int .i64 0]) ∧ RowO IsInt 31 w.heap.size w' u (List.zipWith (fun x y => x + y) la lb)) ∧ Below w.heap.size w w' := by
  have eF : Enters Tryd.prog 9 := ens Tryd.func9 (by kernel_rfl) rfl
  have hz : (List.zipWith (fun x y => x + y) la lb).length = la.length := by rw [List.length_zipWith]; omega
  have bc := fun W (hB : Below w.heap.size w W) => both_yes va vb la lb (List.zipWith (fun x y => x + y) la lb) 9 #[] #[] W (ha.keep lims_int hB) (hb.keep lims_int hB) hl he hz eF (rowAdd_c' la lb k W he ba bb hk)
  have HBC := Lib.hid bc
  clear bc hz eF
  obtain ⟨aa, ca, rfl, -⟩ := ha
  obtain ⟨ab, cb, rfl, -⟩ := hb
  have hB := Below.refl w.heap.size w
  clear ba bb he
  go_enter Tryd.func64, Tryd.ntmps64
  go_wp2_with fail
  refine (HBC.out _ (by repeat (first | exact Below.refl _ _ | exact hB | refine Below.drew ?_ | refine below_drewN ?_ _ | refine bset ?_ (by simp <;> omega) _ | refine bal ?_ _))).mono ?_
  rintro e w1 ⟨⟨u, rfl, hu⟩, hb1⟩
  have HU := Lib.hid hu
  obtain ⟨ua, un, uc, rfl⟩ : ∃ a n c, u = Value.slice a n c := by obtain ⟨a, c, h⟩ := hu.ex; exact ⟨a, _, c, h⟩
  clear HBC hu
  go_wp2
  go_ret2
  exact ⟨⟨_, rfl, HU.out⟩, hb1⟩
set_option maxRecDepth 100000 in
set_option maxHeartbeats 2000000 in
theorem rowAddF_c (va vb : Value) (la lb : List Int) (k : Nat) (w : World) (ha : PRow 0 w va la) (hb : PRow 0 w vb lb) (hl : la.length ≤ 1099511627775) (he : la.length = lb.length) (ba : ∀ j, Bd k (la.getD j 0)) (bb : ∀ j, Bd k (lb.getD j 0)) (hk : k ≤ 17179869184) :
    Calls Tryd.prog 63 #[va, vb] w fun e w' => (∃ u, e = .returned u ∧ RowO IsInt 31 w.heap.size w' u (List.zipWith (fun x y => x + y) la lb)) ∧ Below w.heap.size w w' := by
  have bc := fun W (hB : Below w.heap.size w W) => rowAdd_c va vb la lb k W (ha.keep lims_int hB) (hb.keep lims_int hB) hl he ba bb hk
  obtain ⟨aa, ca, rfl, -⟩ := ha
  obtain ⟨ab, cb, rfl, -⟩ := hb
  have hB := Below.refl w.heap.size w
  clear ba bb he
  go_enter Tryd.func63, Tryd.ntmps63
  go_wp2_with fail
  refine (bc _ (by repeat (first | exact Below.refl _ _ | exact hB | refine Below.drew ?_ | refine below_drewN ?_ _ | refine bset ?_ (by simp <;> omega) _ | refine bal ?_ _))).mono ?_
  rintro e w1 ⟨⟨u, rfl, hu⟩, hb1⟩
  have HU := Lib.hid hu
  obtain ⟨ua, un, uc, rfl⟩ : ∃ a n c, u = Value.slice a n c := by obtain ⟨a, c, h⟩ := hu.ex; exact ⟨a, _, c, h⟩
  clear bc hu
  go_wp2
  go_ret
  exact ⟨⟨_, rfl, HU.out⟩, hb1⟩
theorem rowSub_c' (la lb : List Int) (k : Nat) (w : World) (he : la.length = lb.length) (ba : ∀ j, Bd k (la.getD j 0)) (bb : ∀ j, Bd k (lb.getD j 0)) (hk : k ≤ 17179869184) :
    ∀ j W1 u1 u2, j < la.length → Below w.heap.size w W1 → IsInt W1 u1 (la.getD j 0) → IsInt W1 u2 (lb.getD j 0) → Calls Tryd.prog 82 (#[] ++ #[u1, u2] ++ #[]) W1 fun e w' => (∃ v, e = .returned v ∧ IsInt w' v ((List.zipWith (fun x y => x - y) la lb).getD j 0)) ∧ Below W1.heap.size W1 w' := by
  intro j W1 u1 u2 hj _ h1 h2
  have hc := subI_c u1 u2 (la.getD j 0) (lb.getD j 0) k W1 h1 h2 (ba j) (bb j) hk
  have hz : (List.zipWith (fun x y => x - y) la lb).getD j 0 = la.getD j 0 - lb.getD j 0 := zip_getD hj (by omega)
  rw [hz]
  exact hc
set_option maxRecDepth 100000 in
set_option maxHeartbeats 2000000 in
theorem rowSub_c (va vb : Value) (la lb : List Int) (k : Nat) (w : World) (ha : PRow 0 w va la) (hb : PRow 0 w vb lb) (hl : la.length ≤ 1099511627775) (he : la.length = lb.length) (ba : ∀ j, Bd k (la.getD j 0)) (bb : ∀ j, Bd k (lb.getD j 0)) (hk : k ≤ 17179869184) :
    Calls Tryd.prog 66 #[va, vb] w fun e w' => (∃ u, e = .returned (.tuple #[u, .int .i64 0]) ∧ RowO IsInt 31 w.heap.size w' u (List.zipWith (fun x y => x - y) la lb)) ∧ Below w.heap.size w w' := by
  have eF : Enters Tryd.prog 82 := ens Tryd.func82 (by kernel_rfl) rfl
  have hz : (List.zipWith (fun x y => x - y) la lb).length = la.length := by rw [List.length_zipWith]; omega
  have bc := fun W (hB : Below w.heap.size w W) => both_yes va vb la lb (List.zipWith (fun x y => x - y) la lb) 82 #[] #[] W (ha.keep lims_int hB) (hb.keep lims_int hB) hl he hz eF (rowSub_c' la lb k W he ba bb hk)
  have HBC := Lib.hid bc
  clear bc hz eF
  obtain ⟨aa, ca, rfl, -⟩ := ha
  obtain ⟨ab, cb, rfl, -⟩ := hb
  have hB := Below.refl w.heap.size w
  clear ba bb he
  go_enter Tryd.func66, Tryd.ntmps66
  go_wp2_with fail
  refine (HBC.out _ (by repeat (first | exact Below.refl _ _ | exact hB | refine Below.drew ?_ | refine below_drewN ?_ _ | refine bset ?_ (by simp <;> omega) _ | refine bal ?_ _))).mono ?_
  rintro e w1 ⟨⟨u, rfl, hu⟩, hb1⟩
  have HU := Lib.hid hu
  obtain ⟨ua, un, uc, rfl⟩ : ∃ a n c, u = Value.slice a n c := by obtain ⟨a, c, h⟩ := hu.ex; exact ⟨a, _, c, h⟩
  clear HBC hu
  go_wp2
  go_ret2
  exact ⟨⟨_, rfl, HU.out⟩, hb1⟩
set_option maxRecDepth 100000 in
set_option maxHeartbeats 2000000 in
theorem rowSubF_c (va vb : Value) (la lb : List Int) (k : Nat) (w : World) (ha : PRow 0 w va la) (hb : PRow 0 w vb lb) (hl : la.length ≤ 1099511627775) (he : la.length = lb.length) (ba : ∀ j, Bd k (la.getD j 0)) (bb : ∀ j, Bd k (lb.getD j 0)) (hk : k ≤ 17179869184) :
    Calls Tryd.prog 65 #[va, vb] w fun e w' => (∃ u, e = .returned u ∧ RowO IsInt 31 w.heap.size w' u (List.zipWith (fun x y => x - y) la lb)) ∧ Below w.heap.size w w' := by
  have bc := fun W (hB : Below w.heap.size w W) => rowSub_c va vb la lb k W (ha.keep lims_int hB) (hb.keep lims_int hB) hl he ba bb hk
  obtain ⟨aa, ca, rfl, -⟩ := ha
  obtain ⟨ab, cb, rfl, -⟩ := hb
  have hB := Below.refl w.heap.size w
  clear ba bb he
  go_enter Tryd.func65, Tryd.ntmps65
  go_wp2_with fail
  refine (bc _ (by repeat (first | exact Below.refl _ _ | exact hB | refine Below.drew ?_ | refine below_drewN ?_ _ | refine bset ?_ (by simp <;> omega) _ | refine bal ?_ _))).mono ?_
  rintro e w1 ⟨⟨u, rfl, hu⟩, hb1⟩
  have HU := Lib.hid hu
  obtain ⟨ua, un, uc, rfl⟩ : ∃ a n c, u = Value.slice a n c := by obtain ⟨a, c, h⟩ := hu.ex; exact ⟨a, _, c, h⟩
  clear bc hu
  go_wp2
  go_ret
  exact ⟨⟨_, rfl, HU.out⟩, hb1⟩
set_option maxRecDepth 100000 in
set_option maxHeartbeats 2000000 in
theorem rowOverF_c (v vc : Value) (l : List Int) (c : Int) (k : Nat) (w : World) (hv : PRow 0 w v l) (hc : IsInt w vc c) (hl : l.length ≤ 1099511627775) (hb : ∀ j, Bd k (l.getD j 0)) (bc : Bd k c) (hk : k ≤ 17179869184) (h0 : c ≠ 0) :
    Calls Tryd.prog 68 #[v, vc] w fun e w' => (∃ a n cp b, e = .returned (.tuple #[.slice a n cp, .bool b]) ∧ Hid ((b = true → (∀ j, j < l.length → l.getD j 0 % c = 0) ∧ PRow w.heap.size w' (.slice a n cp) (l.map fun x => x / c)) ∧ (b = false → ∃ j, j < l.length ∧ l.getD j 0 % c ≠ 0))) ∧ Below w.heap.size w w' := by
  have oc := fun W (hB : Below w.heap.size w W) => rowOver_c v vc l c k W (hv.keep lims_int hB) (hc.keep hB) hl hb bc hk h0
  obtain ⟨aa, ca, rfl, -⟩ := hv
  obtain ⟨n1, a1, cc1, l1, rfl, -⟩ := hc
  unfold iv at *
  have hB := Below.refl w.heap.size w
  clear hb bc h0
  go_enter Tryd.func68, Tryd.ntmps68
  go_wp2_with fail
  refine (oc _ (by repeat (first | exact Below.refl _ _ | exact hB | refine Below.drew ?_ | refine below_drewN ?_ _ | refine bset ?_ (by simp <;> omega) _ | refine bal ?_ _))).mono ?_
  rintro e w1 ⟨h, hb1⟩
  have hB1 : Below w.heap.size w w1 := bthen (by repeat (first | exact Below.refl _ _ | exact hB | refine Below.drew ?_ | refine below_drewN ?_ _ | refine bset ?_ (by simp <;> omega) _ | refine bal ?_ _)) hb1
  clear oc
  rcases h with ⟨hno, rfl⟩ | ⟨hyes, u, rfl, hu⟩
  · have HNO := Lib.hid hno
    clear hno
    go_wp2
    go_ret2
    exact ⟨⟨_, _, _, _, rfl, Lib.hid ⟨(fun h => by cases h), fun _ => HNO.out⟩⟩, hB1⟩
  · have HY := Lib.hid (And.intro hyes (hu.row.rebase (show w.heap.size ≤ _ from (show Below w.heap.size w _ by repeat (first | exact Below.refl _ _ | exact hB | refine Below.drew ?_ | refine below_drewN ?_ _ | refine bset ?_ (by simp <;> omega) _ | refine bal ?_ _)).size)))
    obtain ⟨ua, un, uc, rfl⟩ : ∃ a n c, u = Value.slice a n c := by obtain ⟨a, c, h⟩ := hu.ex; exact ⟨a, _, c, h⟩
    clear hyes hu
    go_wp2
    go_ret2
    exact ⟨⟨_, _, _, _, rfl, Lib.hid ⟨(fun _ => HY.out), fun h => by cases h⟩⟩, hB1⟩
end Go.Proofs.YtdllbdfchloijaaDoor

/- exact: what an instruction does to rows (do at []integer.Int). -/
namespace Go.Proofs.YtdllbdfchloijaaDoor
open Num
open Go.ChangeShapes Go.WideShapes Go.ChangeAt Go.RowKit
set_option linter.unusedVariables false
set_option linter.unusedSimpArgs false
attribute [local go_sem ↓] Go.wp_at_zero Go.wp_at_succ
theorem opI_div (t a b c x y : Int) : opI ⟨6, t, a, b, c⟩ x y = if x % c = 0 then some (x / c) else none := by simp [opI]
theorem opI_shr (t a b x y : Int) (m : Nat) : opI ⟨8, t, a, b, (m : Int)⟩ x y = if x % 2 ^ m = 0 then some (x / 2 ^ m) else none := by simp [opI]
/-- the registers in a block that may be written -/
structure RegsP (base : Nat) (w : World) (rb : Nat) (g : Grid) : Prop where
  free : Free w rb
  ty : typOf w rb = some 27
  cell : ∀ k, k < g.length → ∃ u, w.cell? ⟨rb, k, none⟩ = some u ∧ PRow base w u (g.getD k [])
theorem RegsP.rebase {base base' rb : Nat} {w : World} {g : Grid} (h : RegsP base w rb g) (hb : base' ≤ base) : RegsP base' w rb g := ⟨h.free, h.ty, fun j hj => by obtain ⟨u, hu, hr⟩ := h.cell j hj; exact ⟨u, hu, hr.rebase hb⟩⟩
theorem RegsP.keep {base rb : Nat} {w w' : World} {g : Grid} (h : RegsP base w rb g) (k : Below w.heap.size w w') : RegsP base w' rb g :=
  ⟨h.free.keep k, typ_keep h.ty k, fun j hj => by obtain ⟨u, hu, hr⟩ := h.cell j hj; exact ⟨u, bkeep k hu, hr.keep lims_int k⟩⟩
/-- one of them is set -/
theorem RegsP.step {base rb nt : Nat} {w : World} {g : Grid} {v : Value} {r : List Int} (h : RegsP base w rb g) (hv : PRow base w v r) (ht : nt < g.length) : RegsP base (w.setCell ⟨rb, nt, none⟩ v) rb (g.set nt r) := by
  have hk : Kp (· ≠ 27) w (w.setCell ⟨rb, nt, none⟩ v) := (Kp.refl _ w).set (fun t ht => by rw [h.ty] at ht; cases ht; exact fun k => k rfl) _
  refine ⟨h.free.set _ _, by rw [typ_set]; exact h.ty, fun k hk' => ?_⟩
  rw [List.length_set] at hk'
  by_cases e : nt = k
  · subst e
    obtain ⟨u, hu, _⟩ := h.cell nt hk'
    refine ⟨v, cell_here hu _, ?_⟩
    have : (g.set nt r).getD nt [] = r := by simp [hk']
    rw [this]
    exact hv.kp lims_int hk (by decide) (by decide)
  · obtain ⟨u, hu, hr⟩ := h.cell k hk'
    refine ⟨u, cell_far hu (fun e2 => e (by cases e2; rfl)) _, ?_⟩
    have : (g.set nt r).getD k [] = g.getD k [] := by simp [List.getElem?_set_ne e]
    rw [this]
    exact hr.kp lims_int hk (by decide) (by decide)
/-- how rows are calculated with -/
def rowsV : Value := .agg #[.func (.func 62) #[] #[], .func (.func 63) #[] #[], .func (.func 65) #[] #[], .func (.func 67) #[] #[], .func (.func 68) #[] #[]]
theorem rowsV_c (w : World) : Calls Tryd.prog 48 #[] w fun e w' => e = .returned rowsV ∧ Below w.heap.size w w' := by
  have hB := Below.refl w.heap.size w
  go_enter Tryd.func48, Tryd.ntmps48
  go_wp2
  refine bodyPost_ret (v := rowsV) (by simp [rowsV, results, Tryd.results48, go_sem, *]) rfl ⟨rfl, ?_⟩
  repeat (first | exact Below.refl _ _ | exact hB | refine Below.drew ?_ | refine below_drewN ?_ _ | refine bset ?_ (by simp <;> omega) _ | refine bal ?_ _)
set_option maxRecDepth 100000 in
set_option maxHeartbeats 16000000 in
theorem doR_c (i : Ins) (k rb m : Nat) (g : Grid) (uz : Value) (w : World) {b0 : Nat} (hr : RegsP b0 w rb g) (hz : w.cell? ⟨rb, i.a.toNat, none⟩ = some uz) (hi : InsOk i g.length) (hR : Rect m g) (hm : m ≤ 1099511627775) (hb : BdG k g) (hk : k ≤ 4294967296) (hn : g.length ≤ 128) :
    Calls Tryd.prog 61 #[rowsV, .slice (some ⟨rb, 0, none⟩) g.length g.length, i.v] w (AnsL uz (stepR i (g.getD i.a.toNat []) (g.getD i.b.toNat [])) w) := by
  obtain ⟨o1, o2, t0, t1, a0, a1, b0, b1, hc⟩ := hi
  obtain ⟨op, it, ia, ib, ic⟩ := i
  dsimp only at o1 o2 t0 t1 a0 a1 b0 b1 hc ⊢
  obtain ⟨na, rfl⟩ : ∃ x : Nat, ia = x := ⟨ia.toNat, by omega⟩
  obtain ⟨nb, rfl⟩ : ∃ x : Nat, ib = x := ⟨ib.toNat, by omega⟩
  have a1' : na < g.length := by omega
  have b1' : nb < g.length := by omega
  rw [Int.toNat_natCast, Int.toNat_natCast]
  rw [Int.toNat_natCast] at hz
  obtain ⟨ua, x0, hx⟩ := hr.cell na a1'
  obtain rfl : ua = uz := Option.some.inj (x0.symm.trans hz)
  clear hz
  obtain ⟨ub, y0, hy⟩ := hr.cell nb b1'
  have HL := Lib.hid (And.intro (hR na a1') (hR nb b1'))
  have HBD := Lib.hid (And.intro (fun j => hb na j) (fun j => hb nb j))
  obtain ⟨A, hA⟩ : ∃ A, g.getD na [] = A := ⟨_, rfl⟩
  obtain ⟨B, hB'⟩ : ∃ B, g.getD nb [] = B := ⟨_, rfl⟩
  rw [hA] at HL HBD hx ⊢
  rw [hB'] at HL HBD hy ⊢
  obtain ⟨n, hnE⟩ : ∃ n, g.length = n := ⟨_, rfl⟩
  rw [hnE] at a1' b1' hn ⊢
  clear hA hB' hb hr hR t0 t1 a0 a1 b0 b1 hnE
  have HX := Lib.hid (hx.rebase (Nat.zero_le _))
  have HY := Lib.hid (hy.rebase (Nat.zero_le _))
  have HC := Lib.hid hc
  have hLA : A.length ≤ 1099511627775 := by rw [HL.out.1]; exact hm
  have HLA := Lib.hid hLA
  have HEQ := Lib.hid (show A.length = B.length by rw [HL.out.1, HL.out.2])
  have hga : (na : Int) < (n : Int) := by omega
  have hgb : (nb : Int) < (n : Int) := by omega
  obtain ⟨xa, xc, rfl, -⟩ := hx
  obtain ⟨ya, yc, rfl, -⟩ := hy
  clear hc hLA
  have zrb := cell_lt x0
  have hB := Below.refl w.heap.size w
  have hBw := Below.refl w.heap.size w
  unfold Ins.v rowsV
  dsimp only
  go_enter Tryd.func61, Tryd.ntmps61
  go_wp2
  refine wp_name fun w0 hW0 => ?_
  have f0 : w0.cell? ⟨w.heap.size, 0, none⟩ = some (.func (.func 62) #[] #[]) := by rw [hW0]; exact (by first | assumption | exact cell_new (by with_reducible first | rfl | (simp; done) | (simp; omega)) rfl | (repeat (first | assumption | exact cell_new (by with_reducible first | rfl | (simp; done) | (simp; omega)) rfl | refine cell_alloc ?_ _ | refine cell_drew ?_ | refine cell_drewN ?_ _ | refine cell_far ?_ (by simp) _ | (refine cell_far ?_ (by simp <;> omega) _))) | simp [go_sem, *])
  have zf0 := cell_lt f0
  have f1 : w0.cell? ⟨w.heap.size, 1, none⟩ = some (.func (.func 63) #[] #[]) := by rw [hW0]; exact (by first | assumption | exact cell_new (by with_reducible first | rfl | (simp; done) | (simp; omega)) rfl | (repeat (first | assumption | exact cell_new (by with_reducible first | rfl | (simp; done) | (simp; omega)) rfl | refine cell_alloc ?_ _ | refine cell_drew ?_ | refine cell_drewN ?_ _ | refine cell_far ?_ (by simp) _ | (refine cell_far ?_ (by simp <;> omega) _))) | simp [go_sem, *])
  have f2 : w0.cell? ⟨w.heap.size, 2, none⟩ = some (.func (.func 65) #[] #[]) := by rw [hW0]; exact (by first | assumption | exact cell_new (by with_reducible first | rfl | (simp; done) | (simp; omega)) rfl | (repeat (first | assumption | exact cell_new (by with_reducible first | rfl | (simp; done) | (simp; omega)) rfl | refine cell_alloc ?_ _ | refine cell_drew ?_ | refine cell_drewN ?_ _ | refine cell_far ?_ (by simp) _ | (refine cell_far ?_ (by simp <;> omega) _))) | simp [go_sem, *])
  have f3 : w0.cell? ⟨w.heap.size, 3, none⟩ = some (.func (.func 67) #[] #[]) := by rw [hW0]; exact (by first | assumption | exact cell_new (by with_reducible first | rfl | (simp; done) | (simp; omega)) rfl | (repeat (first | assumption | exact cell_new (by with_reducible first | rfl | (simp; done) | (simp; omega)) rfl | refine cell_alloc ?_ _ | refine cell_drew ?_ | refine cell_drewN ?_ _ | refine cell_far ?_ (by simp) _ | (refine cell_far ?_ (by simp <;> omega) _))) | simp [go_sem, *])
  have f4 : w0.cell? ⟨w.heap.size, 4, none⟩ = some (.func (.func 68) #[] #[]) := by rw [hW0]; exact (by first | assumption | exact cell_new (by with_reducible first | rfl | (simp; done) | (simp; omega)) rfl | (repeat (first | assumption | exact cell_new (by with_reducible first | rfl | (simp; done) | (simp; omega)) rfl | refine cell_alloc ?_ _ | refine cell_drew ?_ | refine cell_drewN ?_ _ | refine cell_far ?_ (by simp) _ | (refine cell_far ?_ (by simp <;> omega) _))) | simp [go_sem, *])
  have i0 : w0.cell? ⟨w.heap.size + 1, 0, none⟩ = some (.int .i64 op) := by rw [hW0]; exact (by first | assumption | exact cell_new (by with_reducible first | rfl | (simp; done) | (simp; omega)) rfl | (repeat (first | assumption | exact cell_new (by with_reducible first | rfl | (simp; done) | (simp; omega)) rfl | refine cell_alloc ?_ _ | refine cell_drew ?_ | refine cell_drewN ?_ _ | refine cell_far ?_ (by simp) _ | (refine cell_far ?_ (by simp <;> omega) _))) | simp [go_sem, *])
  have zi0 := cell_lt i0
  have i2 : w0.cell? ⟨w.heap.size + 1, 2, none⟩ = some (.int .i64 na) := by rw [hW0]; exact (by first | assumption | exact cell_new (by with_reducible first | rfl | (simp; done) | (simp; omega)) rfl | (repeat (first | assumption | exact cell_new (by with_reducible first | rfl | (simp; done) | (simp; omega)) rfl | refine cell_alloc ?_ _ | refine cell_drew ?_ | refine cell_drewN ?_ _ | refine cell_far ?_ (by simp) _ | (refine cell_far ?_ (by simp <;> omega) _))) | simp [go_sem, *])
  have i3 : w0.cell? ⟨w.heap.size + 1, 3, none⟩ = some (.int .i64 nb) := by rw [hW0]; exact (by first | assumption | exact cell_new (by with_reducible first | rfl | (simp; done) | (simp; omega)) rfl | (repeat (first | assumption | exact cell_new (by with_reducible first | rfl | (simp; done) | (simp; omega)) rfl | refine cell_alloc ?_ _ | refine cell_drew ?_ | refine cell_drewN ?_ _ | refine cell_far ?_ (by simp) _ | (refine cell_far ?_ (by simp <;> omega) _))) | simp [go_sem, *])
  have i4 : w0.cell? ⟨w.heap.size + 1, 4, none⟩ = some (.int .i64 ic) := by rw [hW0]; exact (by first | assumption | exact cell_new (by with_reducible first | rfl | (simp; done) | (simp; omega)) rfl | (repeat (first | assumption | exact cell_new (by with_reducible first | rfl | (simp; done) | (simp; omega)) rfl | refine cell_alloc ?_ _ | refine cell_drew ?_ | refine cell_drewN ?_ _ | refine cell_far ?_ (by simp) _ | (refine cell_far ?_ (by simp <;> omega) _))) | simp [go_sem, *])
  have hB : Below w.heap.size w w0 := by rw [hW0]; repeat (first | exact Below.refl _ _ | exact hB | refine Below.drew ?_ | refine below_drewN ?_ _ | refine bset ?_ (by simp <;> omega) _ | refine bal ?_ _)
  have hz : w.heap.size ≤ w0.heap.size := hB.size
  clear hW0
  have x0 := bkeep hB x0
  have y0 := bkeep hB y0
  have HS3 := Lib.hid (show ∀ W, Below w0.heap.size w0 W → W.cell? ⟨w.heap.size, 3, none⟩ = some (.func (.func 67) #[] #[]) ∧ W.cell? ⟨w.heap.size + 1, 4, none⟩ = some (.int .i64 ic) from fun W h => ⟨bkeep h f3, bkeep h i4⟩)
  have HS4 := Lib.hid (show ∀ W, Below w0.heap.size w0 W → W.cell? ⟨w.heap.size, 4, none⟩ = some (.func (.func 68) #[] #[]) ∧ W.cell? ⟨w.heap.size + 1, 4, none⟩ = some (.int .i64 ic) from fun W h => ⟨bkeep h f4, bkeep h i4⟩)
  have hBw := Below.refl w0.heap.size w0
  go_quiet (fail)
  have nx := fun W (h : Below w0.heap.size w0 W) => rowNeg_c _ A W (HX.out.keep lims_int (bthen hB h)) HLA.out
  have ax := fun W (h : Below w0.heap.size w0 W) => rowAddF_c _ _ A B k W (HX.out.keep lims_int (bthen hB h)) (HY.out.keep lims_int (bthen hB h)) HLA.out HEQ.out HBD.out.1 HBD.out.2 (by omega)
  have sx := fun W (h : Below w0.heap.size w0 W) => rowSubF_c _ _ A B k W (HX.out.keep lims_int (bthen hB h)) (HY.out.keep lims_int (bthen hB h)) HLA.out HEQ.out HBD.out.1 HBD.out.2 (by omega)
  have hop : op = 1 ∨ op = 2 ∨ op = 3 ∨ op = 4 ∨ op = 5 ∨ op = 6 ∨ op = 7 ∨ op = 8 := by omega
  clear o1 o2 x0 y0
  rcases hop with rfl | rfl | rfl | rfl | rfl | rfl | rfl | rfl
  · go_wp2
    go_ret2
    exact ansL_self (stepR_self fun j hj => by simp [opI]) (HX.out.keep lims_int (by repeat (first | exact Below.refl _ _ | exact hB | refine Below.drew ?_ | refine below_drewN ?_ _ | refine bset ?_ (by simp <;> omega) _ | refine bal ?_ _))) (by repeat (first | exact Below.refl _ _ | exact hB | refine Below.drew ?_ | refine below_drewN ?_ _ | refine bset ?_ (by simp <;> omega) _ | refine bal ?_ _))
  ·
    go_wp2_with fail
    refine (nx _ (by repeat (first | exact Below.refl _ _ | exact hBw | refine Below.drew ?_ | refine below_drewN ?_ _ | refine bset ?_ (by simp <;> omega) _ | refine bal ?_ _))).mono ?_
    rintro e w9 ⟨⟨u, rfl, hu⟩, hb9⟩
    have hB9 : Below w0.heap.size w0 w9 := bthen (by repeat (first | exact Below.refl _ _ | exact hBw | refine Below.drew ?_ | refine below_drewN ?_ _ | refine bset ?_ (by simp <;> omega) _ | refine bal ?_ _)) hb9
    have HU := Lib.hid (hu.row.rebase (show w.heap.size ≤ _ from (bthen hB (show Below w0.heap.size w0 _ by repeat (first | exact Below.refl _ _ | exact hBw | refine Below.drew ?_ | refine below_drewN ?_ _ | refine bset ?_ (by simp <;> omega) _ | refine bal ?_ _))).size))
    obtain ⟨ua, un, uc, rfl⟩ : ∃ a n c, u = Value.slice a n c := by obtain ⟨a, c, h⟩ := hu.ex; exact ⟨a, _, c, h⟩
    clear hu
    go_wp2
    go_ret2
    exact ansL_some (stepR_map (fun x => -x) fun j hj => by simp [opI]) HU.out (bthen hB hB9)
  ·
    go_wp2_with fail
    refine (ax _ (by repeat (first | exact Below.refl _ _ | exact hBw | refine Below.drew ?_ | refine below_drewN ?_ _ | refine bset ?_ (by simp <;> omega) _ | refine bal ?_ _))).mono ?_
    rintro e w9 ⟨⟨u, rfl, hu⟩, hb9⟩
    have hB9 : Below w0.heap.size w0 w9 := bthen (by repeat (first | exact Below.refl _ _ | exact hBw | refine Below.drew ?_ | refine below_drewN ?_ _ | refine bset ?_ (by simp <;> omega) _ | refine bal ?_ _)) hb9
    have HU := Lib.hid (hu.row.rebase (show w.heap.size ≤ _ from (bthen hB (show Below w0.heap.size w0 _ by repeat (first | exact Below.refl _ _ | exact hBw | refine Below.drew ?_ | refine below_drewN ?_ _ | refine bset ?_ (by simp <;> omega) _ | refine bal ?_ _))).size))
    obtain ⟨ua, un, uc, rfl⟩ : ∃ a n c, u = Value.slice a n c := by obtain ⟨a, c, h⟩ := hu.ex; exact ⟨a, _, c, h⟩
    clear hu
    go_wp2
    go_ret2
    exact ansL_some (stepR_zip (· + ·) HEQ.out fun j hj => by simp [opI]) HU.out (bthen hB hB9)
  ·
    go_wp2_with fail
    refine (sx _ (by repeat (first | exact Below.refl _ _ | exact hBw | refine Below.drew ?_ | refine below_drewN ?_ _ | refine bset ?_ (by simp <;> omega) _ | refine bal ?_ _))).mono ?_
    rintro e w9 ⟨⟨u, rfl, hu⟩, hb9⟩
    have hB9 : Below w0.heap.size w0 w9 := bthen (by repeat (first | exact Below.refl _ _ | exact hBw | refine Below.drew ?_ | refine below_drewN ?_ _ | refine bset ?_ (by simp <;> omega) _ | refine bal ?_ _)) hb9
    have HU := Lib.hid (hu.row.rebase (show w.heap.size ≤ _ from (bthen hB (show Below w0.heap.size w0 _ by repeat (first | exact Below.refl _ _ | exact hBw | refine Below.drew ?_ | refine below_drewN ?_ _ | refine bset ?_ (by simp <;> omega) _ | refine bal ?_ _))).size))
    obtain ⟨ua, un, uc, rfl⟩ : ∃ a n c, u = Value.slice a n c := by obtain ⟨a, c, h⟩ := hu.ex; exact ⟨a, _, c, h⟩
    clear hu
    go_wp2
    go_ret2
    exact ansL_some (stepR_zip (· - ·) HEQ.out fun j hj => by simp [opI]) HU.out (bthen hB hB9)
  · rw [constB_mul (.inl rfl)] at HC
    have hc := of_decide_eq_true HC.out
    have oc := fun W => of_c ic W (by omega) (by omega)
    have mc := fun vz W (q : Below w0.heap.size w0 W) (hz : IsInt W vz ic) => rowScale_c _ vz A ic k 10 W (HX.out.keep lims_int (bthen hB q)) hz HLA.out HBD.out.1 (const_bd hc.2.1 hc.2.2 (Nat.le_refl _)) (by omega) (by omega)
    clear nx ax sx
    go_wp2
    go_region_held3 (fun w' => w'.cell? ⟨w.heap.size, 3, none⟩ = some (.func (.func 67) #[] #[]) ∧ w'.cell? ⟨w.heap.size + 1, 4, none⟩ = some (.int .i64 ic))
      (first | (refine HS3.out _ ?_; (repeat (first | exact Below.refl _ _ | exact hBw | refine Below.drew ?_ | refine below_drewN ?_ _ | refine bset ?_ (by simp <;> omega) _ | refine bal ?_ _)); done) | fail)
      (first
        | (go_at_call 21; refine (oc _).mono ?_; rintro e w5 ⟨⟨v5, rfl, hi5⟩, hb5⟩; (have hBd : Below w0.heap.size w0 w5 := bthen (by repeat (first | exact Below.refl _ _ | exact hBw | refine Below.drew ?_ | refine below_drewN ?_ _ | refine bset ?_ (by simp <;> omega) _ | refine bal ?_ _)) hb5; clear hBw; have hBw := hBd; clear hBd); have HI5 := Lib.hid hi5; obtain ⟨n5, a5, c5, l5, rfl, -⟩ := hi5; unfold iv at *)
        | (go_at_call 67; refine (mc _ _ ?_ ?_).mono ?_; (repeat (first | exact Below.refl _ _ | exact hBw | refine Below.drew ?_ | refine below_drewN ?_ _ | refine bset ?_ (by simp <;> omega) _ | refine bal ?_ _)); (refine HI5.out.keep ?_; have hBz := Below.refl w5.heap.size w5; (repeat (first | exact Below.refl _ _ | exact hBz | refine Below.drew ?_ | refine below_drewN ?_ _ | refine bset ?_ (by simp <;> omega) _ | refine bal ?_ _))); rintro e w9 ⟨⟨u, rfl, hu⟩, hb9⟩; have hB9 : Below w0.heap.size w0 w9 := bthen (by repeat (first | exact Below.refl _ _ | exact hBw | refine Below.drew ?_ | refine below_drewN ?_ _ | refine bset ?_ (by simp <;> omega) _ | refine bal ?_ _)) hb9; have HSZ := Lib.hid (show w.heap.size ≤ w5.heap.size from (bthen hB (show Below w0.heap.size w0 w5 by repeat (first | exact Below.refl _ _ | exact hBw | refine Below.drew ?_ | refine below_drewN ?_ _ | refine bset ?_ (by simp <;> omega) _ | refine bal ?_ _))).size); (clear hBw; have hBw := hB9); have HU := Lib.hid hu)
        | fail)
    all_goals
      obtain ⟨ua, un, uc, rfl⟩ : ∃ a n c, u = Value.slice a n c := by obtain ⟨a, c, h⟩ := hu.ex; exact ⟨a, _, c, h⟩
      go_wp2
      go_ret2
      exact ansL_some (stepR_map (fun x => x * ic) fun j hj => by simp [opI]) (HU.out.row.rebase HSZ.out) (bthen hB hB9)
  · rw [constB_mul (.inr rfl)] at HC
    have hc := of_decide_eq_true HC.out
    have oc := fun W => of_c ic W (by omega) (by omega)
    have mc := fun vz W (q : Below w0.heap.size w0 W) (hz : IsInt W vz ic) => rowOverF_c _ vz A ic (k + 65) W (HX.out.keep lims_int (bthen hB q)) hz HLA.out (fun j => (HBD.out.1 j).mono (by omega)) (const_bd hc.2.1 hc.2.2 (by omega)) (by omega) hc.1
    clear nx ax sx
    go_wp2
    go_region_held3 (fun w' => w'.cell? ⟨w.heap.size, 4, none⟩ = some (.func (.func 68) #[] #[]) ∧ w'.cell? ⟨w.heap.size + 1, 4, none⟩ = some (.int .i64 ic))
      (first | (refine HS4.out _ ?_; (repeat (first | exact Below.refl _ _ | exact hBw | refine Below.drew ?_ | refine below_drewN ?_ _ | refine bset ?_ (by simp <;> omega) _ | refine bal ?_ _)); done) | fail)
      (first
        | (go_at_call 21; refine (oc _).mono ?_; rintro e w5 ⟨⟨v5, rfl, hi5⟩, hb5⟩; (have hBd : Below w0.heap.size w0 w5 := bthen (by repeat (first | exact Below.refl _ _ | exact hBw | refine Below.drew ?_ | refine below_drewN ?_ _ | refine bset ?_ (by simp <;> omega) _ | refine bal ?_ _)) hb5; clear hBw; have hBw := hBd; clear hBd); have HI5 := Lib.hid hi5; obtain ⟨n5, a5, c5, l5, rfl, -⟩ := hi5; unfold iv at *)
        | (go_at_call 68; refine (mc _ _ ?_ ?_).mono ?_; (repeat (first | exact Below.refl _ _ | exact hBw | refine Below.drew ?_ | refine below_drewN ?_ _ | refine bset ?_ (by simp <;> omega) _ | refine bal ?_ _)); (refine HI5.out.keep ?_; have hBz := Below.refl w5.heap.size w5; (repeat (first | exact Below.refl _ _ | exact hBz | refine Below.drew ?_ | refine below_drewN ?_ _ | refine bset ?_ (by simp <;> omega) _ | refine bal ?_ _))); rintro e w9 ⟨⟨a9, n9, c9, b9, rfl, hu⟩, hb9⟩; have hB9 : Below w0.heap.size w0 w9 := bthen (by repeat (first | exact Below.refl _ _ | exact hBw | refine Below.drew ?_ | refine below_drewN ?_ _ | refine bset ?_ (by simp <;> omega) _ | refine bal ?_ _)) hb9; have HSZ := Lib.hid (show w.heap.size ≤ w5.heap.size from (bthen hB (show Below w0.heap.size w0 w5 by repeat (first | exact Below.refl _ _ | exact hBw | refine Below.drew ?_ | refine below_drewN ?_ _ | refine bset ?_ (by simp <;> omega) _ | refine bal ?_ _))).size); (clear hBw; have hBw := hB9); have HU := Lib.hid hu)
        | fail)
    all_goals
      go_wp2
      go_ret2
      refine ansL_b (x := A.map fun x => x / ic) ⟨fun h => ⟨stepR_map (fun x => x / ic) fun j hj => ?_, (HU.out.out.1 h).2.rebase HSZ.out⟩, fun h => ?_⟩ (bthen hB hB9)
      · rw [opI_div, if_pos ((HU.out.out.1 h).1 j hj)]
      · obtain ⟨j, hj, hne⟩ := HU.out.out.2 h
        exact stepR_fail hj (by rw [opI_div, if_neg hne])
  · rw [constB_shift (.inl rfl)] at HC
    have hc := of_decide_eq_true HC.out
    obtain ⟨m', rfl⟩ : ∃ m : Nat, ic = m := ⟨ic.toNat, by omega⟩
    have oc := fun W => power_c m' W (by omega)
    have mc := fun vz W (q : Below w0.heap.size w0 W) (hz : IsInt W vz (2 ^ m')) => rowScale_c _ vz A (2 ^ m') k 65 W (HX.out.keep lims_int (bthen hB q)) hz HLA.out HBD.out.1 (pow2_bd (by omega)) (by omega) (by omega)
    clear nx ax sx
    go_wp2
    go_region_held3 (fun w' => w'.cell? ⟨w.heap.size, 3, none⟩ = some (.func (.func 67) #[] #[]) ∧ w'.cell? ⟨w.heap.size + 1, 4, none⟩ = some (.int .i64 (m' : Int)))
      (first | (refine HS3.out _ ?_; (repeat (first | exact Below.refl _ _ | exact hBw | refine Below.drew ?_ | refine below_drewN ?_ _ | refine bset ?_ (by simp <;> omega) _ | refine bal ?_ _)); done) | fail)
      (first
        | (go_at_call 78; refine (oc _).mono ?_; rintro e w5 ⟨⟨v5, rfl, hi5⟩, hb5⟩; (have hBd : Below w0.heap.size w0 w5 := bthen (by repeat (first | exact Below.refl _ _ | exact hBw | refine Below.drew ?_ | refine below_drewN ?_ _ | refine bset ?_ (by simp <;> omega) _ | refine bal ?_ _)) hb5; clear hBw; have hBw := hBd; clear hBd); have HI5 := Lib.hid hi5; obtain ⟨n5, a5, c5, l5, rfl, -⟩ := hi5; unfold iv at *)
        | (go_at_call 67; refine (mc _ _ ?_ ?_).mono ?_; (repeat (first | exact Below.refl _ _ | exact hBw | refine Below.drew ?_ | refine below_drewN ?_ _ | refine bset ?_ (by simp <;> omega) _ | refine bal ?_ _)); (refine HI5.out.keep ?_; have hBz := Below.refl w5.heap.size w5; (repeat (first | exact Below.refl _ _ | exact hBz | refine Below.drew ?_ | refine below_drewN ?_ _ | refine bset ?_ (by simp <;> omega) _ | refine bal ?_ _))); rintro e w9 ⟨⟨u, rfl, hu⟩, hb9⟩; have hB9 : Below w0.heap.size w0 w9 := bthen (by repeat (first | exact Below.refl _ _ | exact hBw | refine Below.drew ?_ | refine below_drewN ?_ _ | refine bset ?_ (by simp <;> omega) _ | refine bal ?_ _)) hb9; have HSZ := Lib.hid (show w.heap.size ≤ w5.heap.size from (bthen hB (show Below w0.heap.size w0 w5 by repeat (first | exact Below.refl _ _ | exact hBw | refine Below.drew ?_ | refine below_drewN ?_ _ | refine bset ?_ (by simp <;> omega) _ | refine bal ?_ _))).size); (clear hBw; have hBw := hB9); have HU := Lib.hid hu)
        | fail)
    all_goals
      obtain ⟨ua, un, uc, rfl⟩ : ∃ a n c, u = Value.slice a n c := by obtain ⟨a, c, h⟩ := hu.ex; exact ⟨a, _, c, h⟩
      go_wp2
      go_ret2
      exact ansL_some (stepR_map (fun x => x * 2 ^ m') fun j hj => by simp [opI]) (HU.out.row.rebase HSZ.out) (bthen hB hB9)
  · rw [constB_shift (.inr rfl)] at HC
    have hc := of_decide_eq_true HC.out
    obtain ⟨m', rfl⟩ : ∃ m : Nat, ic = m := ⟨ic.toNat, by omega⟩
    have oc := fun W => power_c m' W (by omega)
    have mc := fun vz W (q : Below w0.heap.size w0 W) (hz : IsInt W vz (2 ^ m')) => rowOverF_c _ vz A (2 ^ m') (k + 65) W (HX.out.keep lims_int (bthen hB q)) hz HLA.out (fun j => (HBD.out.1 j).mono (by omega)) (pow2_bd (by omega)) (by omega) (p2_ne m')
    clear nx ax sx
    go_wp2
    go_region_held3 (fun w' => w'.cell? ⟨w.heap.size, 4, none⟩ = some (.func (.func 68) #[] #[]) ∧ w'.cell? ⟨w.heap.size + 1, 4, none⟩ = some (.int .i64 (m' : Int)))
      (first | (refine HS4.out _ ?_; (repeat (first | exact Below.refl _ _ | exact hBw | refine Below.drew ?_ | refine below_drewN ?_ _ | refine bset ?_ (by simp <;> omega) _ | refine bal ?_ _)); done) | fail)
      (first
        | (go_at_call 78; refine (oc _).mono ?_; rintro e w5 ⟨⟨v5, rfl, hi5⟩, hb5⟩; (have hBd : Below w0.heap.size w0 w5 := bthen (by repeat (first | exact Below.refl _ _ | exact hBw | refine Below.drew ?_ | refine below_drewN ?_ _ | refine bset ?_ (by simp <;> omega) _ | refine bal ?_ _)) hb5; clear hBw; have hBw := hBd; clear hBd); have HI5 := Lib.hid hi5; obtain ⟨n5, a5, c5, l5, rfl, -⟩ := hi5; unfold iv at *)
        | (go_at_call 68; refine (mc _ _ ?_ ?_).mono ?_; (repeat (first | exact Below.refl _ _ | exact hBw | refine Below.drew ?_ | refine below_drewN ?_ _ | refine bset ?_ (by simp <;> omega) _ | refine bal ?_ _)); (refine HI5.out.keep ?_; have hBz := Below.refl w5.heap.size w5; (repeat (first | exact Below.refl _ _ | exact hBz | refine Below.drew ?_ | refine below_drewN ?_ _ | refine bset ?_ (by simp <;> omega) _ | refine bal ?_ _))); rintro e w9 ⟨⟨a9, n9, c9, b9, rfl, hu⟩, hb9⟩; have hB9 : Below w0.heap.size w0 w9 := bthen (by repeat (first | exact Below.refl _ _ | exact hBw | refine Below.drew ?_ | refine below_drewN ?_ _ | refine bset ?_ (by simp <;> omega) _ | refine bal ?_ _)) hb9; have HSZ := Lib.hid (show w.heap.size ≤ w5.heap.size from (bthen hB (show Below w0.heap.size w0 w5 by repeat (first | exact Below.refl _ _ | exact hBw | refine Below.drew ?_ | refine below_drewN ?_ _ | refine bset ?_ (by simp <;> omega) _ | refine bal ?_ _))).size); (clear hBw; have hBw := hB9); have HU := Lib.hid hu)
        | fail)
    all_goals
      go_wp2
      go_ret2
      refine ansL_b (x := A.map fun x => x / 2 ^ m') ⟨fun h => ⟨stepR_map (fun x => x / 2 ^ m') fun j hj => ?_, (HU.out.out.1 h).2.rebase HSZ.out⟩, fun h => ?_⟩ (bthen hB hB9)
      · rw [opI_shr, if_pos ((HU.out.out.1 h).1 j hj)]
      · obtain ⟨j, hj, hne⟩ := HU.out.out.2 h
        exact stepR_fail hj (by rw [opI_shr, if_neg hne])
end Go.Proofs.YtdllbdfchloijaaDoor

/- The reference's rows: Over; what an instruction makes of rows (do). -/
namespace Go.Proofs.YtdllbdfchloijaaDoor
open Num
open Go.ChangeShapes Go.WideShapes Go.ChangeAt Go.RowKit
set_option linter.unusedVariables false
set_option linter.unusedSimpArgs false
attribute [local go_sem ↓] Go.wp_at_zero Go.wp_at_succ
end Go.Proofs.YtdllbdfchloijaaDoor

/- The reference's rows: constant; what an instruction makes of rows (do). -/
namespace Go.Proofs.YtdllbdfchloijaaDoor
open Num
open Go.ChangeShapes Go.WideShapes Go.ChangeAt Go.RowKit
set_option linter.unusedVariables false
set_option linter.unusedSimpArgs false
attribute [local go_sem ↓] Go.wp_at_zero Go.wp_at_succ
end Go.Proofs.YtdllbdfchloijaaDoor

/- row: Widest. -/
namespace Go.Proofs.YtdllbdfchloijaaDoor
open Num
open Go.ChangeShapes Go.WideShapes Go.ChangeAt Go.RowKit
set_option linter.unusedVariables false
set_option linter.unusedSimpArgs false
attribute [local go_sem ↓] Go.wp_at_zero Go.wp_at_succ
end Go.Proofs.YtdllbdfchloijaaDoor

/- vm's laws: works answers true. -/
namespace Go.Proofs.YtdllbdfchloijaaDoor
open Num
open Go.ChangeShapes Go.WideShapes Go.ChangeAt Go.RowKit
set_option linter.unusedVariables false
set_option linter.unusedSimpArgs false
end Go.Proofs.YtdllbdfchloijaaDoor

/- vm's laws: a program and rows that came in; what Run's and New's results say. -/
namespace Go.Proofs.YtdllbdfchloijaaDoor
open Num
open Go.ChangeShapes Go.WideShapes Go.ChangeAt Go.RowKit
set_option linter.unusedVariables false
set_option linter.unusedSimpArgs false
/-- what Run's results say -/
def RunRes (ins regs : Int) (code : List Ins) (outs : List Int) (g : Grid) (base : Nat) (w' : World) (ov : Value) (n : Nat) (s : Int) : Prop :=
  (¬ ProgOk ins regs code outs ∧ ov = .slice none 0 0 ∧ n = 0 ∧ s = 80) ∨
  (ProgOk ins regs code outs ∧ ¬ FitsG ins g ∧ ov = .slice none 0 0 ∧ n = 0 ∧ s = 5) ∨
  (ProgOk ins regs code outs ∧ FitsG ins g ∧ n < code.length ∧ (∃ h, after code (startG g regs.toNat (g.getD 0 []).length) n = some h) ∧ after code (startG g regs.toNat (g.getD 0 []).length) (n + 1) = none ∧ ov = .slice none 0 0 ∧ s = 20) ∨
  (ProgOk ins regs code outs ∧ FitsG ins g ∧ n = code.length ∧ s = 0 ∧ ∃ h, after code (startG g regs.toNat (g.getD 0 []).length) code.length = some h ∧ IsL 27 (RowW base) base w' ov (outsG outs h))
theorem RunRes.keep {ins regs : Int} {code : List Ins} {outs : List Int} {g : Grid} {base : Nat} {w w' : World} {ov : Value} {n : Nat} {s : Int} (h : RunRes ins regs code outs g base w ov n s) (hb : Below w.heap.size w w') : RunRes ins regs code outs g base w' ov n s := by
  rcases h with h | h | h | ⟨h1, h2, h3, h4, h, h5, h6⟩
  · exact .inl h
  · exact .inr (.inl h)
  · exact .inr (.inr (.inl h))
  · exact .inr (.inr (.inr ⟨h1, h2, h3, h4, h, h5, h6.keep (prs_rowO lims_int _ _) hb⟩))
end Go.Proofs.YtdllbdfchloijaaDoor

