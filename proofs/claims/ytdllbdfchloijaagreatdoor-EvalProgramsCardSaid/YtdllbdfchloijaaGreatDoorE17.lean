/- Texts of this seat, laid together: RwA, RwB, RwC, RwD, EvF, RefM, RefP, TxtR. Each opens with its own remark, which says what it proves, and under which conditions. -/
import Derived.Test.YtdllbdfchloijaaGreatDoorE13
import Derived.Test.YtdllbdfchloijaaGreatDoorE12
import Derived.Test.YtdllbdfchloijaaGreatDoorE16
import Derived.Deep.DrawnRows
import Derived.Test.YtdllbdfchloijaaGreatDoorE03
import Derived.Deep.RegionLaw
import Derived.Test.YtdllbdfchloijaaGreatDoorE14
import Derived.Test.YtdllbdfchloijaaGreatDoorE07
import Derived.Laws.IdiomStrings
import Derived.Laws.BytesArg
import Derived.Deep.LoopGhost
set_option linter.unusedVariables false
set_option linter.unusedSimpArgs false
/- row: each. -/
namespace Go.Proofs.YtdllbdfchloijaaGreatDoor
open Num
open Go.ChangeShapes Go.WideShapes Go.ChangeAt Go.RowKit
set_option linter.unusedVariables false
set_option linter.unusedSimpArgs false

/-- a row of the call's own (from base on), by a function -/
def OwnNB (base : Nat) (w : World) (v : Value) (n : Nat) (f : Nat → Int) : Prop :=
  ∃ xs, w.ownsRow base 50 2 v n xs ∧ ∀ k, k < n → ∃ nb a len c, xs[k * 2]? = some (.bool nb) ∧ xs[k * 2 + 1]? = some (.slice a len c) ∧ IsInt w (.agg #[.bool nb, .slice a len c]) (f k)
section
variable {base : Nat} {w w' : World} {v : Value} {n : Nat} {f : Nat → Int}
theorem OwnNB.nil (base : Nat) (w : World) (f : Nat → Int) : OwnNB base w (.slice none 0 0) 0 f := ⟨[], World.ownsRow_nil _ _ _ _, fun k hk => absurd hk (by omega)⟩
theorem OwnNB.kp {S : TypeId → Prop} (h : OwnNB base w v n f) (k : Kp S w w') (h1 : S 50) (h2 : S 106) : OwnNB base w' v n f := by
  obtain ⟨xs, hO, h⟩ := h
  refine ⟨xs, owns_kp hO k h1, fun j hj => ?_⟩
  obtain ⟨nb, a, len, c, k1, k2, k3⟩ := h j hj
  exact ⟨nb, a, len, c, k1, k2, k3.lim (k.lim h2)⟩
theorem OwnNB.keep (h : OwnNB base w v n f) (k : Below w.heap.size w w') : OwnNB base w' v n f := h.kp (S := fun _ => True) (Kp.of_below _ k) trivial trivial
theorem OwnNB.ex (h : OwnNB base w v n f) : ∃ a c, v = .slice a n c := by
  obtain ⟨xs, ⟨_, h1⟩, _⟩ := h
  rcases h1 with ⟨rfl, rfl⟩ | ⟨g, cap, cur, rfl, _⟩
  · exact ⟨none, 0, rfl⟩
  · exact ⟨_, _, rfl⟩
theorem OwnNB.congr {f' : Nat → Int} (h : OwnNB base w v n f) (he : ∀ k, k < n → f k = f' k) : OwnNB base w v n f' := by
  obtain ⟨xs, h1, h2⟩ := h
  exact ⟨xs, h1, fun k hk => by rw [← he k hk]; exact h2 k hk⟩
theorem OwnNB.rowO {l : List Int} (h : OwnNB base w v n f) (hl : l.length = n) (he : ∀ k, k < n → f k = l.getD k 0) : RowO IsInt 50 base w v l := by
  subst hl
  obtain ⟨xs, h1, h2⟩ := h
  exact ⟨xs, h1, fun k hk => by rw [← he k hk]; exact h2 k hk⟩
end
section
variable {P : Program} {ops : Array Oper} {o : Oper} {a : Act} {Q : Exit → Act → World → Prop} {base : Nat} {wr : World} {v : Value} {n : Nat} {f : Nat → Int} {t : TypeId} {s x : Operand} {nb : Bool} {ad : Option Addr} {len c cc : Nat} {z : Int}
/-- append of one number to such a row -/
theorem app_numB {rest : List Oper} (hgd : o.guard = none)
    (ho : o.op = .call { callee := .builtin .append, args := #[s, x], argTypes := #[43, 43] }) (hO : OwnNB base wr v n f) (hbase : base ≤ wr.heap.size) (hv : IsInt wr (.agg #[.bool nb, .slice ad len c]) z) (hs : a.eval s = v)
    (hx : a.eval x = .slice (some ⟨wr.heap.size, 0, none⟩) 1 cc) (hn : n + 1 ≤ 1099511627776)
    (h : ∀ v' w', OwnNB base w' v' (n + 1) (fun i => if i = n then z else f i) → Kp (· ≠ 50) wr w' → Out (fun k => base ≤ k) wr w' → wpList Tryz.prog ops Q rest (a.put o.dst v') w') : wpList Tryz.prog ops Q (o :: rest) a (wr.alloc (.cells #[.bool nb, .slice ad len c] t)) := by
  obtain ⟨i, z0, hi, hz, hsize, hby, hzs⟩ := elInt.info
  obtain ⟨xs, h1, h2⟩ := hO
  refine wpList_append_own _ hgd s x _ ho base 50 i z0 2 32 elInt.ht hi hz hsize hby hzs elInt.pos v n xs hs (h1.alloc _) ⟨wr.heap.size, 0, none⟩ 1 cc [.bool nb, .slice ad len c] hx rfl (cells_new wr _ t) (fun u hu => by simp at hu; rcases hu with rfl | rfl <;> rfl) (by unfold maxLen; omega) (by omega) (by simp; omega) ?_
  intro v' w' hown hg _
  have hk : Kp (· ≠ 50) wr w' := ((Kp.refl _ wr).alloc _).grown hg fun q hg' t' ht hne => hne (by
    rw [own_typ' (h1.alloc _) hg'] at ht
    exact (Option.some.inj ht).symm)
  have hl : Lim wr w' := hk.lim (by decide)
  refine h v' w' ⟨_, hown, fun k hk' => ?_⟩ hk (((Out.refl _ wr).alloc _).grown hg fun k hk' _ => (h1.lt k hk').1)
  by_cases e : k = n
  · subst e
    refine ⟨nb, ad, len, c, ?_, ?_, ?_⟩
    · rw [List.getElem?_append_right (by rw [h1.1]; omega), h1.1]; simp
    · rw [List.getElem?_append_right (by rw [h1.1]; omega), h1.1]; simp
    · simp only [if_true]; exact hv.lim hl
  · obtain ⟨nb1, a1, len1, c1, k1, k2, k3⟩ := h2 k (by omega)
    refine ⟨nb1, a1, len1, c1, ?_, ?_, ?_⟩
    · rw [List.getElem?_append_left (by rw [h1.1]; omega)]; exact k1
    · rw [List.getElem?_append_left (by rw [h1.1]; omega)]; exact k2
    · show IsInt _ _ (if k = n then z else f k)
      rw [if_neg e]; exact k3.lim hl
end
end Go.Proofs.YtdllbdfchloijaaGreatDoor

/- row: each. -/
namespace Go.Proofs.YtdllbdfchloijaaGreatDoor
open Num
open Go.ChangeShapes Go.WideShapes Go.ChangeAt Go.RowKit
set_option linter.unusedVariables false
set_option linter.unusedSimpArgs false
attribute [local go_sem ↓] Go.wp_at_zero Go.wp_at_succ
/-- what a function value does to the numbers l, one by one: P j holds ahead of the j-th; it writes ints of the blocks X alone -/
def FnE (X : Nat → Prop) (P : Nat → World → Prop) (l : List Int) (f : Nat → Int) (F : Nat) (bnd caps : Array Value) : Prop :=
  ∀ j W u, j < l.length → P j W → IsInt W u (l.getD j 0) → Calls Tryz.prog F (bnd ++ #[u] ++ caps) W fun e w' => (∃ x, e = .returned x ∧ IsInt w' x (f j)) ∧ P (j + 1) w' ∧ Kp (· ≠ 3) W w' ∧ Out X W w'
set_option maxRecDepth 100000 in
set_option maxHeartbeats 8000000 in
theorem each_c (v : Value) (l : List Int) (F : Nat) (bnd caps : Array Value) (f : Nat → Int) (P : Nat → World → Prop) (X : Nat → Prop) (w : World) (hv : PRow 0 w v l) (hl : l.length ≤ 1099511627775) (eF : Enters Tryz.prog F) (hP0 : P 0 w)
    (hPk : ∀ j W W', P j W → Kp (· ≠ 50) W W' → Out (fun k => w.heap.size ≤ k) W W' → P j W') (hX : ∀ b, X b → typOf w b = some 3) (hf : FnE X P l f F bnd caps) :
    Calls Tryz.prog 142 #[v, .func (.func F) bnd caps] w fun e w' => (∃ u, e = .returned u ∧ OwnNB w.heap.size w' u l.length f) ∧ P l.length w' ∧ Out X w w' := by
  have HV := Lib.hid hv
  have HPK := Lib.hid hPk
  have HX := Lib.hid hX
  have HF := Lib.hid hf
  have HP0 := Lib.hid hP0
  obtain ⟨va, vc, rfl, -⟩ := hv
  clear hPk hX hf hP0
  unfold Enters at eF
  have hO0 := Out.refl X w
  go_enter Tryz.func142, Tryz.ntmps142
  go_wp2
  go_loopw [5, 10] (fun v x wr => ∃ j : Nat, j ≤ l.length ∧ x = .int .i64 j ∧ Hid (OwnNB w.heap.size wr v j f) ∧ Hid (P j wr) ∧ Out X w wr) (fun _ x _ => l.length - (intOf x).toNat)
  case atStart => exact ⟨0, Nat.zero_le _, rfl, Lib.hid (OwnNB.nil _ _ _), HP0, hO0⟩
  case round =>
    obtain ⟨j, hj, rfl, hR, hP, hOr⟩ := hrel
    obtain ⟨fa, fc, hfv⟩ := hR.out.ex
    subst hfv
    by_cases hlt : j < l.length
    · have hltI : (j : Int) < (l.length : Int) := by omega
      have hkp : Kp (· ≠ 3) w wr := Kp.out hOr (fun q t hq ht k => by rw [HX.out q hq] at ht; exact k (Option.some.inj ht).symm)
      obtain ⟨a', c', he, -, vr⟩ := (HV.out.kp lims_int hkp (by decide) (by decide)).view
      obtain ⟨rfl, -, rfl⟩ := Value.slice.inj he
      obtain ⟨b, off, nx, ax, lx, cx, rfl, c0, c1, hi⟩ := vr j hlt
      have HI := Lib.hid hi
      have zb := cell_lt c0
      have hsz : w.heap.size ≤ wr.heap.size := hOr.size
      have fcl := fun W (q : Below wr.heap.size wr W) => HF.out j W (.agg #[.bool nx, .slice ax lx cx]) hlt (HPK.out j wr W hP.out (Kp.of_below _ q) (Out.of_below _ q)) (HI.out.keep q)
      have hBw := Below.refl wr.heap.size wr
      clear hi vr he
      have HSN := Lib.hid (show ∀ k, k < j + 1 → (fun i => if i = j then f j else f i) k = f k from fun k hk => by dsimp only; split; (subst_vars; rfl); rfl)
      obtain ⟨z, hz⟩ : ∃ z, f j = z := ⟨_, rfl⟩
      rw [hz] at fcl HSN
      clear hz
      go_wp2_with (first
        | (go_at_fn F; refine (fcl _ ?_).mono ?_; (repeat (first | exact Below.refl _ _ | exact hBw | refine Below.drew ?_ | refine below_drewN ?_ _ | refine bset ?_ (by simp <;> omega) _ | refine bal ?_ _)); rintro e w5 ⟨⟨x5, rfl, hx5⟩, hp5, hk5, ho5⟩; have HX5 := Lib.hid hx5; have HP5 := Lib.hid hp5; have hk5' : Kp (· ≠ 3) wr w5 := (Kp.of_below _ (by repeat (first | exact Below.refl _ _ | exact hBw | refine Below.drew ?_ | refine below_drewN ?_ _ | refine bset ?_ (by simp <;> omega) _ | refine bal ?_ _))).trans hk5; have ho5' : Out X wr w5 := (Out.of_below _ (by repeat (first | exact Below.refl _ _ | exact hBw | refine Below.drew ?_ | refine below_drewN ?_ _ | refine bset ?_ (by simp <;> omega) _ | refine bal ?_ _))).trans ho5; obtain ⟨n5, a5, c5, l5, rfl, -⟩ := hx5; unfold iv at *; have hR5 := Lib.hid (hR.out.kp hk5' (by decide) (by decide)); have hO5 : Out X w w5 := hOr.trans ho5'; have hz5 : w.heap.size ≤ w5.heap.size := hO5.size; clear fcl hp5 hk5 ho5)
        | (at_builtin; refine app_numB (by rfl) (by rfl) hR5.out hz5 HX5.out (by rfl) (by rfl) (by omega) ?_)
        | fail)
      intro v8 w8 hR8 hk8 ho8
      have HR8 := Lib.hid (hR8.congr HSN.out)
      have HP8 := Lib.hid (HPK.out _ _ _ HP5.out hk8 ho8)
      have hO8 : Out X w w8 := hO5.then ho8 (fun i h1 h2 => by omega)
      clear hR8 hk8 ho8
      go_wp2
      exact ⟨⟨j + 1, by omega, by go_num, HR8, HP8, hO8⟩, by simp [intOf]; omega⟩
    · obtain rfl : j = l.length := by omega
      go_wp2
      go_ret
      exact ⟨⟨_, rfl, hR.out⟩, hP.out, hOr⟩
theorem out_none {w w' : World} (h : Out (fun _ => False) w w') : Below w.heap.size w w' := h.to_below (fun _ _ _ h => h) (Nat.le_refl _)
theorem map_getD {l : List Int} (g : Int → Int) {k : Nat} (hk : k < l.length) : (l.map g).getD k 0 = g (l.getD k 0) := by simp [hk]
set_option maxRecDepth 100000 in
set_option maxHeartbeats 2000000 in
theorem rowNeg_c (v : Value) (l : List Int) (w : World) (hv : PRow 0 w v l) (hl : l.length ≤ 1099511627775) :
    Calls Tryz.prog 124 #[v] w fun e w' => (∃ u, e = .returned u ∧ RowO IsInt 50 w.heap.size w' u (l.map fun x => -x)) ∧ Below w.heap.size w w' := by
  have ec := fun W (h : Below w.heap.size w W) => each_c v l 101 #[] #[] (fun j => -(l.getD j 0)) (fun _ _ => True) (fun _ => False) W (hv.keep lims_int h) hl (ens Tryz.func101 (by kernel_rfl) rfl) trivial (fun _ _ _ _ _ _ => trivial) (fun _ h => h.elim) (fun j W u hj _ hu => (neg_c u _ W hu).mono fun e w' ⟨h1, h2⟩ => ⟨h1, trivial, Kp.of_below _ h2, Out.of_below _ h2⟩)
  obtain ⟨va, vc, rfl, -⟩ := hv
  have hB := Below.refl w.heap.size w
  go_enter Tryz.func124, Tryz.ntmps124
  go_wp2_with fail
  refine (ec _ (by repeat (first | exact Below.refl _ _ | exact hB | refine Below.drew ?_ | refine below_drewN ?_ _ | refine bset ?_ (by simp <;> omega) _ | refine bal ?_ _))).mono ?_
  rintro e w1 ⟨⟨u, rfl, hu⟩, -, hO⟩
  have HU := Lib.hid (show RowO IsInt 50 w.heap.size w1 u (l.map fun x => -x) from hu.rowO (by simp) (fun k hk => by rw [map_getD _ hk]))
  have hB1 := out_none hO
  obtain ⟨ua, uc, rfl⟩ := hu.ex
  clear ec hu hO
  go_wp2
  go_ret
  exact ⟨⟨_, rfl, HU.out⟩, hB1⟩
end Go.Proofs.YtdllbdfchloijaaGreatDoor

/- row: Scale. -/
namespace Go.Proofs.YtdllbdfchloijaaGreatDoor
open Num
open Go.ChangeShapes Go.WideShapes Go.ChangeAt Go.RowKit
set_option linter.unusedVariables false
set_option linter.unusedSimpArgs false
attribute [local go_sem ↓] Go.wp_at_zero Go.wp_at_succ
set_option maxRecDepth 100000 in
set_option maxHeartbeats 2000000 in
theorem rowScale_c (v vc : Value) (l : List Int) (c : Int) (k m : Nat) (w : World) (hv : PRow 0 w v l) (hc : IsInt w vc c) (hl : l.length ≤ 1099511627775) (hb : ∀ j, Bd k (l.getD j 0)) (bc : Bd m c) (hk : k ≤ 17179869184) (hm : m ≤ 17179869184) :
    Calls Tryz.prog 129 #[v, vc] w fun e w' => (∃ u, e = .returned u ∧ RowO IsInt 50 w.heap.size w' u (l.map fun x => x * c)) ∧ Below w.heap.size w w' := by
  have ec := fun W (h : Below w.heap.size w W) => each_c v l 57 #[vc] #[] (fun j => c * l.getD j 0) (fun _ W' => IsInt W' vc c) (fun _ => False) W (hv.keep lims_int h) hl (ens Tryz.func57 (by kernel_rfl) rfl) (hc.keep h) (fun _ _ _ hi hkp _ => hi.lim (hkp.lim (by decide))) (fun _ h => h.elim) (fun j W u hj hi hu => (mul_c vc u c _ m k W hi hu bc (hb j) hm hk).mono fun e w' ⟨h1, h2⟩ => ⟨h1, hi.keep h2, Kp.of_below _ h2, Out.of_below _ h2⟩)
  obtain ⟨va, vcp, rfl, -⟩ := hv
  obtain ⟨n1, a1, c1, l1, rfl, -⟩ := hc
  unfold iv at *
  have hB := Below.refl w.heap.size w
  go_enter Tryz.func129, Tryz.ntmps129
  go_wp2_with fail
  refine (ec _ (by repeat (first | exact Below.refl _ _ | exact hB | refine Below.drew ?_ | refine below_drewN ?_ _ | refine bset ?_ (by simp <;> omega) _ | refine bal ?_ _))).mono ?_
  rintro e w1 ⟨⟨u, rfl, hu⟩, -, hO⟩
  have hB1 : Below w.heap.size w w1 := bthen (by repeat (first | exact Below.refl _ _ | exact hB | refine Below.drew ?_ | refine below_drewN ?_ _ | refine bset ?_ (by simp <;> omega) _ | refine bal ?_ _)) (out_none hO)
  have HU := Lib.hid (show RowO IsInt 50 w.heap.size w1 u (l.map fun x => x * c) from (hu.rowO (l := l.map fun x => x * c) (by simp) (fun k hk => by rw [map_getD (fun x => x * c) hk, Int.mul_comm])).rebase (by simp))
  obtain ⟨ua, uc, rfl⟩ := hu.ex
  clear ec hu hO
  go_wp2
  go_ret
  exact ⟨⟨_, rfl, HU.out⟩, hB1⟩
end Go.Proofs.YtdllbdfchloijaaGreatDoor

/- row: both, Add, Sub. -/
namespace Go.Proofs.YtdllbdfchloijaaGreatDoor
open Num
open Go.ChangeShapes Go.WideShapes Go.ChangeAt Go.RowKit
set_option linter.unusedVariables false
set_option linter.unusedSimpArgs false
attribute [local go_sem ↓] Go.wp_at_zero Go.wp_at_succ
theorem typ_fresh {w : World} {c : Array Value} {t : TypeId} {q : Nat} (h : q = w.heap.size) : typOf (w.alloc (.cells c t)) q = some t := by
  subst h; unfold typOf; rw [(MapKept.heap_alloc w _).1]
set_option maxRecDepth 100000 in
set_option maxHeartbeats 4000000 in
theorem bothF_c (u vb : Value) (lb : List Int) (x z : Int) (F : Nat) (bnd caps : Array Value) (j kb fb bb : Nat) (w : World) (hx : IsInt w u x) (hrow : PRow 0 w vb lb) (hj : j < lb.length) (hl : lb.length ≤ 1099511627775)
    (c0 : w.cell? ⟨kb, 0, none⟩ = some (.int .i64 ((j : Int) - 1))) (c0f : w.frozen? ⟨kb, 0, none⟩ = false) (c1 : w.cell? ⟨fb, 0, none⟩ = some (.func (.func F) bnd caps)) (c2 : w.cell? ⟨bb, 0, none⟩ = some vb) (hT : typOf w kb = some 3) (hkf : kb ≠ fb) (hkb : kb ≠ bb)
    (eF : Enters Tryz.prog F) (hF : ∀ W u1 u2, Out (fun k => k = kb) w W → IsInt W u1 x → IsInt W u2 (lb.getD j 0) → Calls Tryz.prog F (bnd ++ #[u1, u2] ++ caps) W fun e w' => (∃ v, e = .returned v ∧ IsInt w' v z) ∧ Below W.heap.size W w') :
    Calls Tryz.prog 143 #[u, .pointer (some ⟨kb, 0, none⟩), .pointer (some ⟨fb, 0, none⟩), .pointer (some ⟨bb, 0, none⟩)] w fun e w' => (∃ v, e = .returned v ∧ IsInt w' v z) ∧ w'.cell? ⟨kb, 0, none⟩ = some (.int .i64 (j : Int)) ∧ (w'.frozen? ⟨kb, 0, none⟩ = false ∧ typOf w' kb = some 3) ∧ Out (fun k => k = kb) w w' := by
  have HF := Lib.hid hF
  have HX := Lib.hid hx
  obtain ⟨a', c', rfl, -, vr⟩ := hrow.view
  obtain ⟨b, off, n2, a2, l2, c2', rfl, d0, d1, hi⟩ := vr j hj
  have HY := Lib.hid hi
  have zk := cell_lt c0
  have hbk : b ≠ kb := fun e => by
    obtain ⟨a1, c1', he, -, -, h4⟩ := hrow
    obtain ⟨rfl, -, -⟩ := Value.slice.inj he
    rcases h4 with h4 | ⟨b', off', h1, -, h3, -⟩
    · rw [h4] at hj; simp at hj
    · cases h1; subst e; rw [hT] at h3; exact absurd (Option.some.inj h3) (by decide)
  obtain ⟨n1, a1, c1', l1, rfl, -⟩ := hx
  unfold iv at *
  unfold Enters at eF
  have hjI : (j : Int) < (lb.length : Int) := by omega
  have hkf' := Ne.symm hkf
  have hkb' := Ne.symm hkb
  clear hF vr hi
  have HZ := Lib.hid (And.intro hrow hT)
  clear hrow hT
  have hB := Below.refl w.heap.size w
  go_enter Tryz.func143, Tryz.ntmps143
  go_wp2
  refine wp_name fun w0 hW0 => ?_
  have hO : Out (fun k => k = kb) w w0 := by rw [hW0]; repeat (first | exact Out.refl _ _ | refine Out.drew ?_ | refine Out.set ?_ (fun _ => show kb = kb from rfl) _ | refine Out.alloc ?_ _)
  have x0 : w0.cell? ⟨w.heap.size, 0, none⟩ = some (.bool n1) := by rw [hW0]; simp [go_sem, *]
  have x1 : w0.cell? ⟨w.heap.size, 1, none⟩ = some (.slice a1 l1.length c1') := by rw [hW0]; simp [go_sem, *]
  have r0 : w0.cell? ⟨w.heap.size + 1, 0, none⟩ = some (.bool false) := by rw [hW0]; simp [go_sem, *]
  have r1 : w0.cell? ⟨w.heap.size + 1, 1, none⟩ = some (.slice none 0 0) := by rw [hW0]; simp [go_sem, *]
  have r0f : w0.frozen? ⟨w.heap.size + 1, 0, none⟩ = false := by rw [hW0]; simp [go_sem, *]
  have r1f : w0.frozen? ⟨w.heap.size + 1, 1, none⟩ = false := by rw [hW0]; simp [go_sem, *]
  have k0 : w0.cell? ⟨kb, 0, none⟩ = some (.int .i64 (j : Int)) := by rw [hW0]; simp [go_sem, *]
  have k0f : w0.frozen? ⟨kb, 0, none⟩ = false := by rw [hW0]; simp [go_sem, *]
  have ht0 : Hid (typOf w0 kb = some 3) := Lib.hid (by rw [hW0]; repeat (first | exact HZ.out.2 | (with_reducible rw [typ_set]) | (refine typ_keep ?_ (bal (Below.refl _ _) _))))
  have zfb := cell_lt c1
  have zbb := cell_lt c2
  have zbl := cell_lt d0
  have q1 := okeep hO c1 hkf'
  have q2 := okeep hO c2 hkb'
  have e0 := okeep hO d0 hbk
  have e1 := okeep hO d1 hbk
  clear hW0 c0 c0f c1 c2 d0 d1
  have hs := hO.size
  have zr := cell_lt r0
  have zx := cell_lt x0
  have ze := cell_lt e0
  have zq1 := cell_lt q1
  have zq2 := cell_lt q2
  have zk0 := cell_lt k0
  have hLim : Lim w w0 := (Kp.out (S := (· ≠ 3)) hO (fun q t hq ht k => by subst hq; rw [HZ.out.2] at ht; exact k (Option.some.inj ht).symm)).lim (by decide)
  have fc := fun W (h : Below w0.heap.size w0 W) => HF.out W (.agg #[.bool n1, .slice a1 l1.length c1']) (.agg #[.bool n2, .slice a2 l2 c2']) (hO.below h) ((HX.out.lim hLim).keep h) ((HY.out.lim hLim).keep h)
  simp only [Array.append_assoc] at fc
  have hBw := Below.refl w0.heap.size w0
  clear hLim
  have HS := Lib.hid (show ∀ W, Out (fun k => k = w.heap.size + 1) w0 W → W.cell? ⟨fb, 0, none⟩ = some (.func (.func F) bnd caps) ∧ W.cell? ⟨w.heap.size, 0, none⟩ = some (.bool n1) ∧ W.cell? ⟨w.heap.size, 1, none⟩ = some (.slice a1 l1.length c1') ∧ W.cell? ⟨bb, 0, none⟩ = some (.slice (some ⟨b, off, none⟩) lb.length c') ∧ W.cell? ⟨kb, 0, none⟩ = some (.int .i64 (j : Int)) ∧ W.cell? ⟨b, off + j * 2, none⟩ = some (.bool n2) ∧ W.cell? ⟨b, off + j * 2 + 1, none⟩ = some (.slice a2 l2 c2') from fun W h => ⟨okeep h q1 (by omega), okeep h x0 (by omega), okeep h x1 (by omega), okeep h q2 (by omega), okeep h k0 (by omega), okeep h e0 (by omega), okeep h e1 (by omega)⟩)
  have hOw := Out.refl (fun k => k = w.heap.size + 1) w0
  go_region_held3 (fun w' => w'.cell? ⟨fb, 0, none⟩ = some (.func (.func F) bnd caps) ∧ w'.cell? ⟨w.heap.size, 0, none⟩ = some (.bool n1) ∧ w'.cell? ⟨w.heap.size, 1, none⟩ = some (.slice a1 l1.length c1') ∧ w'.cell? ⟨bb, 0, none⟩ = some (.slice (some ⟨b, off, none⟩) lb.length c') ∧ w'.cell? ⟨kb, 0, none⟩ = some (.int .i64 (j : Int)) ∧ w'.cell? ⟨b, off + j * 2, none⟩ = some (.bool n2) ∧ w'.cell? ⟨b, off + j * 2 + 1, none⟩ = some (.slice a2 l2 c2'))
    (first | (refine HS.out _ ?_; (repeat (first | exact hOw | refine Out.drew ?_ | refine Out.drewN ?_ _ | refine Out.set ?_ (fun _ => show w.heap.size + 1 = w.heap.size + 1 from rfl) _ | refine Out.alloc ?_ _)); done) | fail)
    (first
      | (go_at_fn F; refine (fc _ ?_).mono ?_; (repeat (first | exact Below.refl _ _ | exact hBw | refine Below.drew ?_ | refine below_drewN ?_ _ | refine bset ?_ (by simp <;> omega) _ | refine bal ?_ _)); rintro e w5 ⟨⟨v5, rfl, hv5⟩, hb5⟩; have hB5 : Below w0.heap.size w0 w5 := bthen (by repeat (first | exact Below.refl _ _ | exact hBw | refine Below.drew ?_ | refine below_drewN ?_ _ | refine bset ?_ (by simp <;> omega) _ | refine bal ?_ _)) hb5; (have hBd : Out (fun k => k = w.heap.size + 1) w0 w5 := Out.of_below _ hB5; clear hOw; have hOw := hBd; clear hBd); have r05f := bkeepf hB5 r0 r0f; have r15f := bkeepf hB5 r1 r1f; have r05 := bkeep hB5 r0; have r15 := bkeep hB5 r1; have HV := Lib.hid hv5; obtain ⟨n5, a5, c5, l5, rfl, -⟩ := hv5; unfold iv at *)
      | fail)
  all_goals
    have k05 := bkeep hB5 k0
    have k05f := bkeepf hB5 k0 k0f
    have t05 := Lib.hid (typ_keep ht0.out hB5)
    have hO5 := hO.below hB5
    clear fc
    go_wp2
    refine bodyPost_ret (v := .agg #[.bool n5, .slice a5 l5.length c5]) (by simp [results, Tryz.results143, go_sem, *]) rfl ⟨⟨_, rfl, (HV.out).put2 r05 r15 _ _⟩, ?_, ⟨?_, ?_⟩, ?_⟩
    · exact cell_far (cell_far k05 (by simp <;> omega) _) (by simp <;> omega) _
    · rw [World.frozen?_setCell, World.frozen?_setCell]; exact k05f
    · rw [typ_set, typ_set]; exact t05.out
    · exact (hO5.set (fun h => absurd h (by show ¬ (w.heap.size + 1 < w.heap.size); omega)) _).set (fun h => absurd h (by show ¬ (w.heap.size + 1 < w.heap.size); omega)) _
set_option maxRecDepth 100000 in
set_option maxHeartbeats 4000000 in
/-- both, of rows that are as long -/
theorem both_yes (va vb : Value) (la lb lz : List Int) (F : Nat) (bnd caps : Array Value) (w : World) (ha : PRow 0 w va la) (hb : PRow 0 w vb lb) (hl : la.length ≤ 1099511627775) (he : la.length = lb.length) (hz : lz.length = la.length)
    (eF : Enters Tryz.prog F) (hF : ∀ j W u1 u2, j < la.length → Below w.heap.size w W → IsInt W u1 (la.getD j 0) → IsInt W u2 (lb.getD j 0) → Calls Tryz.prog F (bnd ++ #[u1, u2] ++ caps) W fun e w' => (∃ v, e = .returned v ∧ IsInt w' v (lz.getD j 0)) ∧ Below W.heap.size W w') :
    Calls Tryz.prog 110 #[va, vb, .func (.func F) bnd caps] w fun e w' => (∃ u, e = .returned (.tuple #[u, .int .i64 0]) ∧ RowO IsInt 50 w.heap.size w' u lz) ∧ Below w.heap.size w w' := by
  have HF := Lib.hid hF
  have HA := Lib.hid ha
  have HB' := Lib.hid hb
  obtain ⟨aa, ca, rfl, -⟩ := ha
  obtain ⟨ab, cb, rfl, -⟩ := hb
  have hb0 : lb.length ≤ 1099511627775 := by omega
  have HE := Lib.hid (And.intro he hz)
  have hne : (la.length != lb.length) = false := by simp [he]
  have hneI : ((la.length : Int) != (lb.length : Int)) = false := by simp [he]
  have ec := fun W (hB : Below w.heap.size w W) (k0 : W.cell? ⟨w.heap.size + 1 + 1, 0, none⟩ = some (.int .i64 (((0 : Nat) : Int) - 1))) (k0f : W.frozen? ⟨w.heap.size + 1 + 1, 0, none⟩ = false) (f0 : W.cell? ⟨w.heap.size + 1, 0, none⟩ = some (.func (.func F) bnd caps)) (b0 : W.cell? ⟨w.heap.size, 0, none⟩ = some (.slice ab lb.length cb)) (hT : typOf W (w.heap.size + 1 + 1) = some 3) =>
    each_c (.slice aa la.length ca) la 143 #[] #[.pointer (some ⟨w.heap.size + 1 + 1, 0, none⟩), .pointer (some ⟨w.heap.size + 1, 0, none⟩), .pointer (some ⟨w.heap.size, 0, none⟩)] (fun j => lz.getD j 0)
      (fun j W' => Below w.heap.size w W' ∧ W'.cell? ⟨w.heap.size + 1 + 1, 0, none⟩ = some (.int .i64 ((j : Int) - 1)) ∧ W'.frozen? ⟨w.heap.size + 1 + 1, 0, none⟩ = false ∧ W'.cell? ⟨w.heap.size + 1, 0, none⟩ = some (.func (.func F) bnd caps) ∧ W'.cell? ⟨w.heap.size, 0, none⟩ = some (.slice ab lb.length cb) ∧ typOf W' (w.heap.size + 1 + 1) = some 3)
      (fun q => q = w.heap.size + 1 + 1) W (HA.out.keep lims_int hB) hl (ens Tryz.func143 (by kernel_rfl) rfl) ⟨hB, k0, k0f, f0, b0, hT⟩
      (fun j W1 W2 h hk ho => by
        obtain ⟨h1, h2, h3, h4, h5, h6⟩ := h
        have hz := cell_lt k0
        have g : ∀ q, q ≤ w.heap.size + 2 → ¬ (W.heap.size ≤ q) := fun q hq => by omega
        have hs1 := h1.size
        exact ⟨h1.trans (ho.to_below (fun q hq _ => g q (by omega)) h1.size), okeep ho h2 (g _ (by omega)), okeepf ho h2 h3 (g _ (by omega)), okeep ho h4 (g _ (by omega)), okeep ho h5 (g _ (by omega)), by rw [typ_of_block (w := W1) (ho.block _ (cell_lt h2) (g _ (by omega)))]; exact h6⟩)
      (fun q hq => by subst hq; exact hT)
      (fun j W1 u hj h hu => by
        obtain ⟨h1, h2, h3, h4, h5, h6⟩ := h
        refine (bothF_c u (.slice ab lb.length cb) lb (la.getD j 0) (lz.getD j 0) F bnd caps j (w.heap.size + 1 + 1) (w.heap.size + 1) w.heap.size W1 hu (HB'.out.keep lims_int h1) (by have := HE.out.1; omega) hb0 h2 h3 h4 h5 h6 (by omega) (by omega) eF (fun W2 u1 u2 hO k1 k2 => HF.out j W2 u1 u2 hj (h1.trans (hO.to_below (fun q hq _ e => by omega) h1.size)) k1 k2)).mono ?_
        rintro e w' ⟨h7, h8, ⟨h8f, h8t⟩, h9⟩
        have hkp : Kp (· ≠ 3) W1 w' := Kp.out h9 (fun q t hq ht k => by subst hq; rw [h6] at ht; exact k (Option.some.inj ht).symm)
        refine ⟨h7, ⟨h1.trans (h9.to_below (fun q hq _ e => by omega) h1.size), by rw [h8]; congr 2; omega, h8f, okeep h9 h4 (by omega), okeep h9 h5 (by omega), h8t⟩, hkp, h9⟩)
  have EC := Lib.hid ec
  clear ec he hz hF
  have hB := Below.refl w.heap.size w
  go_enter Tryz.func110, Tryz.ntmps110
  go_upto_region 4 with (fail)
  refine wp_name fun w1 hW1 => ?_
  have k0f : w1.frozen? ⟨w.heap.size + 1 + 1, 0, none⟩ = false := by rw [hW1]; simp [go_sem, *]
  have k0 : w1.cell? ⟨w.heap.size + 1 + 1, 0, none⟩ = some (.int .i64 (-1)) := by rw [hW1]; exact (by first | assumption | exact cell_new (by with_reducible first | rfl | (simp; done) | (simp; omega)) rfl | (repeat (first | assumption | exact cell_new (by with_reducible first | rfl | (simp; done) | (simp; omega)) rfl | refine cell_alloc ?_ _ | refine cell_drew ?_ | refine cell_drewN ?_ _ | refine cell_far ?_ (by simp) _ | (refine cell_far ?_ (by simp <;> omega) _))) | simp [go_sem, *])
  have zk0 := cell_lt k0
  have f0 : w1.cell? ⟨w.heap.size + 1, 0, none⟩ = some (.func (.func F) bnd caps) := by rw [hW1]; exact (by first | assumption | exact cell_new (by with_reducible first | rfl | (simp; done) | (simp; omega)) rfl | (repeat (first | assumption | exact cell_new (by with_reducible first | rfl | (simp; done) | (simp; omega)) rfl | refine cell_alloc ?_ _ | refine cell_drew ?_ | refine cell_drewN ?_ _ | refine cell_far ?_ (by simp) _ | (refine cell_far ?_ (by simp <;> omega) _))) | simp [go_sem, *])
  have zf0 := cell_lt f0
  have b0 : w1.cell? ⟨w.heap.size, 0, none⟩ = some (.slice ab lb.length cb) := by rw [hW1]; exact (by first | assumption | exact cell_new (by with_reducible first | rfl | (simp; done) | (simp; omega)) rfl | (repeat (first | assumption | exact cell_new (by with_reducible first | rfl | (simp; done) | (simp; omega)) rfl | refine cell_alloc ?_ _ | refine cell_drew ?_ | refine cell_drewN ?_ _ | refine cell_far ?_ (by simp) _ | (refine cell_far ?_ (by simp <;> omega) _))) | simp [go_sem, *])
  have zb0 := cell_lt b0
  have hB : Below w.heap.size w w1 := by rw [hW1]; repeat (first | exact Below.refl _ _ | exact hB | refine Below.drew ?_ | refine below_drewN ?_ _ | refine bset ?_ (by simp <;> omega) _ | refine bal ?_ _)
  have hT : Hid (typOf w1 (w.heap.size + 1 + 1) = some 3) := Lib.hid (by rw [hW1]; exact typ_fresh (by simp))
  have hz : w.heap.size ≤ w1.heap.size := hB.size
  clear hW1

  have hb11 := Below.refl w1.heap.size w1
  go_wp2_with fail
  refine (EC.out _ (by repeat (first | exact Below.refl _ _ | exact hB | refine Below.drew ?_ | refine below_drewN ?_ _ | refine bset ?_ (by simp <;> omega) _ | refine bal ?_ _)) ?_ ?_ ?_ ?_ ?_).mono ?_
  · simpa using k0
  · exact k0f
  · exact f0
  · exact b0
  · exact hT.out
  rintro e w2 ⟨⟨u, rfl, hu⟩, hp, hO⟩
  have HU := Lib.hid (show RowO IsInt 50 w.heap.size w2 u lz from (hu.rowO HE.out.2 (fun k hk => rfl)).rebase hz)
  have HP := Lib.hid hp.1
  obtain ⟨ua, uc, rfl⟩ := hu.ex
  clear hu hp hO
  go_wp2
  go_ret2
  exact ⟨⟨_, rfl, HU.out⟩, HP.out⟩
end Go.Proofs.YtdllbdfchloijaaGreatDoor

/- eval: Program, walked. -/
namespace Go.Proofs.YtdllbdfchloijaaGreatDoor
open Pt
open Num
open Go.ChangeShapes Go.WideShapes Go.ChangeAt Go.RowKit
set_option linter.unusedVariables false
set_option linter.unusedSimpArgs false
attribute [local go_sem ↓] Go.wp_at_zero Go.wp_at_succ
/-- what Program answers where it is asked rightly -/
def ProgPost (k n : Nat) (f : Nat → Int × Int) (w : World) (e : Ending) (w' : World) : Prop :=
  (∃ ca cc oa oc, e = .returned (.tuple #[.agg #[.int .i64 (k : Int), .int .i64 ((k + n + 1 : Nat) : Int), .slice ca (codeL k n f n).length cc, .slice oa (outsL k n).length oc], .int .i64 0]) ∧ InsV w' ca cc (codeL k n f n) ∧ IntsV w' oa oc (outsL k n) ∧ FromA w.heap.size 39 w' ca ∧ FromA w.heap.size 3 w' oa) ∧ Below w.heap.size w w'
theorem codeL_le {k n : Nat} (f : Nat → Int × Int) (hk : 1 ≤ k) (hk8 : k ≤ 8) {i : Nat} (hi : i ≤ 15) : (codeL k n f i).length ≤ 660 := by
  have h1 := code_le k n f hk i
  have h2 : k * (k + 3) ≤ 8 * 11 := Nat.mul_le_mul hk8 (by omega)
  have h3 : i * (k * (k + 3)) ≤ 15 * (8 * 11) := Nat.mul_le_mul hi h2
  omega
theorem horn_le8 {k : Nat} (t term a b : Int) {s : Nat} (hs : s ≤ 8) : (hornL k t term a b s).length ≤ 60 := by
  have h1 := horn_le k t term a b s
  have h2 : s * (s + 5) ≤ 8 * 13 := Nat.mul_le_mul hs (by omega)
  omega
/-- the program at the loop's head, at first -/
theorem evS_new {w w1 : World} {k n : Nat} {f : Nat → Int × Int} (hb : Below w.heap.size w w1) (hlt : w.heap.size < w1.heap.size) (hT : Tz64 w)
    (r0 : w1.cell? ⟨w.heap.size, 0, none⟩ = some (.int .i64 0)) (r1 : w1.cell? ⟨w.heap.size, 1, none⟩ = some (.int .i64 0)) (r2 : w1.cell? ⟨w.heap.size, 2, none⟩ = some (.slice none 0 0)) (r3 : w1.cell? ⟨w.heap.size, 3, none⟩ = some (.slice none 0 0)) (rf : ∀ j, w1.frozen? ⟨w.heap.size, j, none⟩ = false) :
    EvS w w1.heap.size (w1.heap.size + 1) k n f 0 ((w1.alloc (.cells #[.int .i64 (k : Int), .int .i64 ((k + n + 1 : Nat) : Int), .slice none 0 0, .slice none 0 0] 27)).alloc (.cells #[addV w1.heap.size] 80)) := by
  have hb2 : Below w1.heap.size w1 ((w1.alloc (.cells #[.int .i64 (k : Int), .int .i64 ((k + n + 1 : Nat) : Int), .slice none 0 0, .slice none 0 0] 27)).alloc (.cells #[addV w1.heap.size] 80)) := bal (bal (Below.refl _ _) _) _
  have e1 : ∀ i v, (#[Value.int .i64 (k : Int), .int .i64 ((k + n + 1 : Nat) : Int), .slice none 0 0, .slice none 0 0] : Array Value)[i]? = some v → ((w1.alloc (.cells #[.int .i64 (k : Int), .int .i64 ((k + n + 1 : Nat) : Int), .slice none 0 0, .slice none 0 0] 27)).alloc (.cells #[addV w1.heap.size] 80)).cell? ⟨w1.heap.size, i, none⟩ = some v := fun i v h => cell_alloc (cell_new rfl h) _
  have hz : w1.heap.size < ((w1.alloc (.cells #[.int .i64 (k : Int), .int .i64 ((k + n + 1 : Nat) : Int), .slice none 0 0, .slice none 0 0] 27)).alloc (.cells #[addV w1.heap.size] 80)).heap.size := by simp; omega
  refine ⟨⟨?_, ?_, e1 0 _ rfl, e1 1 _ rfl, ⟨_, e1 2 _ rfl, World.ownsRow_nil _ _ _ _⟩, ⟨_, e1 3 _ rfl, World.ownsRow_nil _ _ _ _⟩⟩, cell_new (by simp) rfl, typ_fresh (by simp), hb.trans (hb2.mono (Nat.le_of_lt hlt)), hlt, bkeep hb2 r0, bkeep hb2 r1, bkeep hb2 r2, bkeep hb2 r3, fun j => ?_, ⟨(hT.keep hb).keep hb2, ?_⟩⟩
  · exact typ_keep (typ_fresh rfl) (bal (Below.refl _ _) _)
  · exact (Free.new rfl).keep (bal (Below.refl _ _) _)
  · rw [World.frozen?_of_block (w := w1) (hb2.block _ hlt)]; exact rf j
  · exact Nat.lt_of_lt_of_le (cell_lt (hT 0 (by decide))) (Nat.le_of_lt hlt)
end Go.Proofs.YtdllbdfchloijaaGreatDoor

/- The reference's numbers: Power. -/
namespace Go.Proofs.YtdllbdfchloijaaGreatDoor
open Num
open Go.ChangeShapes Go.WideShapes Go.ChangeAt Go.RowKit
set_option linter.unusedVariables false
set_option linter.unusedSimpArgs false
theorem pow_limbs (q m : Nat) (hm : m < 16) : NumR.Limbs ((List.replicate (q + 1) 0).set q (2 ^ m)) ∧ NumR.val ((List.replicate (q + 1) 0).set q (2 ^ m)) = 2 ^ (16 * q + m) := by
  have h2 : 2 ^ m < 65536 := Nat.lt_of_lt_of_le (Nat.pow_lt_pow_right (by omega) hm) (by decide)
  have e : (List.replicate (q + 1) 0).set q (2 ^ m) = List.replicate q 0 ++ [2 ^ m] := by
    rw [List.replicate_succ', List.set_append_right _ _ (by simp)]
    simp
  rw [e]
  refine ⟨fun x hx => ?_, ?_⟩
  · simp only [List.mem_append, List.mem_replicate, List.mem_singleton] at hx
    rcases hx with ⟨_, rfl⟩ | rfl
    · exact NumR.BB_pos
    · exact h2
  · rw [NumR.val_append, NumR.val_zeros]
    simp only [NumR.val, List.length_replicate, Nat.mul_zero, Nat.add_zero, Nat.zero_add]
    rw [Nat.pow_add, Nat.pow_mul]
    rfl
set_option maxRecDepth 100000 in
set_option maxHeartbeats 1000000 in
theorem rpower_c (n : Nat) (w : World) (hn : n ≤ 1048576) :
    Calls Tryz.prog 145 #[.int .i64 (n : Int)] w fun e w' => (∃ v, e = .returned v ∧ IsRef w' v (2 ^ n)) ∧ Below w.heap.size w w' := by
  obtain ⟨q, hq⟩ : ∃ q, q = n / 16 := ⟨_, rfl⟩
  obtain ⟨m, hm⟩ : ∃ m, m = n % 16 := ⟨_, rfl⟩
  have hnn : n = 16 * q + m := by omega
  have e1 : (n : Int) / 16 = (q : Int) := by omega
  have e1' : (n : Int).tdiv 16 = (q : Int) := by rw [Int.tdiv_eq_ediv_of_nonneg (by omega)]; exact e1
  have e2 : (n : Int) % 16 = (m : Int) := by omega
  have e2' : (n : Int).tmod 16 = (m : Int) := by rw [Int.tmod_eq_emod_of_nonneg (by omega)]; exact e2
  have hm16 : m < 16 := by omega
  have hqk : q ≤ 65536 := by omega
  have HP := Lib.hid (pow_limbs q m hm16)
  have HN := Lib.hid (show (2 : Int) ^ n = sg false (NumR.val ((List.replicate (q + 1) 0).set q (2 ^ m))) by rw [(pow_limbs q m hm16).2, ← hnn]; simp [sg])
  have hmk := mk32 (q + 1) (by omega)
  have ec : ((q + 1 : Nat) : Int) = (q : Int) + 1 := by omega
  rw [ec] at hmk
  have h2 : 2 ^ m < 65536 := Nat.lt_of_lt_of_le (Nat.pow_lt_pow_right (by omega) hm16) (by decide)
  obtain ⟨y, hy⟩ : ∃ y, y = 2 ^ m := ⟨_, rfl⟩
  rw [← hy] at HP HN h2
  have e3 : (2 : Int) ^ m = (y : Int) := by rw [hy, Int.natCast_pow]; rfl
  have e4 : IntKind.u32.wrap (y : Int) = (y : Int) := w32 (by unfold BB; omega)
  clear hq hm hy ec hnn
  have hs : w.heap.size + 1 = (w.alloc (.cells #[.bool false, .slice none 0 0] 54)).heap.size := by rw [World.size_alloc]
  have hb : Blk ((w.alloc (.cells #[.bool false, .slice none 0 0] 54)).alloc (.cells (cel (List.replicate (q + 1) 0)).toArray 106)) (w.heap.size + 1) (List.replicate (q + 1) 0) := blk_at hs
  have c0 := hb.cell q (by simp)
  have f0 := hb.frozen q
  have hu : U32 ((w.alloc (.cells #[.bool false, .slice none 0 0] 54)).alloc (.cells ((cel (List.replicate (q + 1) 0)).set q (.int .u32 (y : Int))).toArray 106)) (some ⟨w.heap.size + 1, 0, none⟩) (q + 1) ((List.replicate (q + 1) 0).set q y) := by
    have h := (blk_at (l := (List.replicate (q + 1) 0).set q y) hs).u32 (limbs_of_r HP.out.1) (by unfold maxLen; simp; omega)
    rw [List.length_set, List.length_replicate, show cel ((List.replicate (q + 1) 0).set q y) = (cel (List.replicate (q + 1) 0)).set q (.int .u32 (y : Int)) by simp [cel, List.map_set]] at h
    exact h
  have nc := rnorm_c false _ _ _ _ hu HP.out.1
  rw [← HN.out] at nc
  rw [List.length_set, List.length_replicate] at nc
  clear hu
  clear hb hs
  go_enter Tryz.func145, Tryz.ntmps145
  go_wp2_with fail
  refine nc.mono ?_
  rintro e w1 ⟨⟨v, rfl, hi⟩, hb1⟩
  have hB := bthen (bal (bal (Below.refl w.heap.size w) _) _) hb1
  have x0 : w1.cell? ⟨w.heap.size, 0, none⟩ = some (.bool false) := bkc hb1
  have zx0 := cell_lt x0
  have x0f : w1.frozen? ⟨w.heap.size, 0, none⟩ = false := bkcf (v := .bool false) hb1
  have x1 : w1.cell? ⟨w.heap.size, 1, none⟩ = some (.slice none 0 0) := bkc hb1
  have x1f : w1.frozen? ⟨w.heap.size, 1, none⟩ = false := bkcf (v := .slice none 0 0) hb1
  have hB : Below w.heap.size w w1 := bthen (by repeat (first | exact Below.refl _ _ | exact hB | refine Below.drew ?_ | refine below_drewN ?_ _ | refine bset ?_ (by simp <;> omega) _ | refine bal ?_ _)) hb1
  have hz : w.heap.size ≤ w1.heap.size := hB.size
  have HI := Lib.hid (hi.put2 x0 x1)
  obtain ⟨n1, a1, c1, l1, rfl, -⟩ := hi
  unfold iv at *
  clear nc c0 f0
  go_wp2
  refine bodyPost_ret (v := .agg #[.bool n1, .slice a1 l1.length c1]) (by simp [results, Tryz.results145, go_sem, *]) rfl ⟨⟨_, rfl, HI.out _ _⟩, ?_⟩
  repeat (first | exact Below.refl _ _ | exact hB | refine Below.drew ?_ | refine below_drewN ?_ _ | refine bset ?_ (by simp <;> omega) _ | refine bal ?_ _)
end Go.Proofs.YtdllbdfchloijaaGreatDoor

/- Plain laws: a quotient and a remainder out of those of the sizes. -/
namespace Go.Proofs.YtdllbdfchloijaaGreatDoor
open Num
open Go.ChangeShapes Go.WideShapes Go.ChangeAt Go.RowKit
/-- no remainder, or what is divided is not below 0 -/
theorem dm_low {n1 n2 : Bool} {A B : Nat} (hB : 0 < B) (h : n1 = false ∨ A % B = 0) : sg n1 A / sg n2 B = sg (!(n1 == n2)) (A / B) ∧ sg n1 A % sg n2 B = ((A % B : Nat) : Int) := by
  have hm : (A : Int) % (B : Int) = ((A % B : Nat) : Int) := (Int.natCast_emod A B).symm
  have hd : (A : Int) / (B : Int) = ((A / B : Nat) : Int) := (Int.natCast_ediv A B).symm
  cases n1 with
  | false =>
    cases n2 with
    | false => simp only [sg, Bool.false_eq_true, if_false, beq_self_eq_true, Bool.not_true]; exact ⟨hd, hm⟩
    | true =>
      simp only [sg, Bool.false_eq_true, if_false, if_true, show (!(false == true)) = true from rfl]
      rw [Int.ediv_neg, Int.emod_neg]
      exact ⟨by rw [hd], hm⟩
  | true =>
    have h0 : A % B = 0 := by simpa using h
    have hdv : (B : Int) ∣ (A : Int) := Int.natCast_dvd_natCast.2 (Nat.dvd_of_mod_eq_zero h0)
    have hz : (-(A : Int)) % (B : Int) = 0 := Int.emod_eq_zero_of_dvd (Int.dvd_neg.2 hdv)
    have hq : (-(A : Int)) / (B : Int) = -((A / B : Nat) : Int) := by rw [Int.neg_ediv_of_dvd hdv, hd]
    rw [h0]
    cases n2 with
    | false =>
      simp only [sg, Bool.false_eq_true, if_false, if_true, show (!(true == false)) = true from rfl]
      exact ⟨hq, hz⟩
    | true =>
      simp only [sg, Bool.false_eq_true, if_false, if_true, show (!(true == true)) = false from rfl]
      rw [Int.ediv_neg, Int.emod_neg]
      exact ⟨by rw [hq, Int.neg_neg], hz⟩
/-- a remainder, and what is divided is below 0 -/
theorem dm_high {n2 : Bool} {A B : Nat} (hB : 0 < B) (h : 0 < A % B) : sg true A / sg n2 B = sg (!(true == n2)) (A / B) - (sg n2 B).sign ∧ sg true A % sg n2 B = sg true (A % B) + ((sg n2 B).natAbs : Int) := by
  have e := Nat.div_add_mod A B
  have hl := Nat.mod_lt A hB
  have hs : (B : Int).sign = 1 := Int.sign_eq_one_of_pos (by omega)
  have key : (-(A : Int)) / (B : Int) = -((A / B : Nat) : Int) - 1 ∧ (-(A : Int)) % (B : Int) = (B : Int) - ((A % B : Nat) : Int) := by
    have e2 : -(A : Int) = ((B : Int) - ((A % B : Nat) : Int)) + (B : Int) * (-((A / B : Nat) : Int) - 1) := by
      have : (A : Int) = (B : Int) * ((A / B : Nat) : Int) + ((A % B : Nat) : Int) := by rw [← Int.natCast_mul, ← Int.natCast_add, e]
      rw [Int.mul_sub, Int.mul_neg]; omega
    constructor
    · rw [e2, Int.add_mul_ediv_left _ _ (by omega), Int.ediv_eq_zero_of_lt (by omega) (by omega)]; omega
    · rw [e2, Int.add_mul_emod_self_left, Int.emod_eq_of_lt (by omega) (by omega)]
  cases n2 with
  | false => simp only [sg, if_true, if_false, Bool.false_eq_true]; rw [key.1, key.2]; simp [hs]; omega
  | true => simp only [sg, if_true]; rw [Int.ediv_neg, Int.emod_neg, key.1, key.2]; simp [hs]; omega
/-- a number out of its digits and a sign that stands where there are digits -/
theorem ref_of {w : World} {a : Option Addr} {c : Nat} {l : List Nat} {b s : Bool} (hu : U32 w a c l) (hl : NumR.Limbs l) (hn : Nrm l) (hb : b = (s && decide (0 < l.length))) : IsRef w (.agg #[.bool b, .slice a l.length c]) (sg s (NumR.val l)) := by
  refine ⟨b, a, c, l, rfl, hu, hl, hn, ?_, ?_⟩
  · intro h
    rw [hb] at h
    simp at h
    intro e
    rw [e] at h
    simp at h
  · cases l with
    | nil => cases s <;> cases b <;> simp [sg, NumR.val]
    | cons x t => simp at hb; rw [hb]
end Go.Proofs.YtdllbdfchloijaaGreatDoor

/- Rows of bytes of the call's own; the reference's Text. -/
namespace Go.Proofs.YtdllbdfchloijaaGreatDoor
open Num
open Go.ChangeShapes Go.WideShapes Go.ChangeAt Go.RowKit
set_option linter.unusedVariables false
set_option linter.unusedSimpArgs false
theorem info8 : (Tryz.prog.info? 5).map (fun i => (i.zero, i.size, i.bytes)) = some (some (.int .u8 0), 1, 1) := by kernel_rfl
theorem el8 : Elt Tryz.prog 100 5 1 1 := Elt.mk' Tryz.underlying100 info8 rfl (by decide) (by decide)
/-- bytes of the call's own -/
def Own8 (w0 wr : World) (v : Value) (L : List UInt8) : Prop := OwnE 5 1 w0 wr v L.length (Lib.byteCells L)
theorem Own8.below {w0 wr w' : World} {v : Value} {L : List UInt8} (h : Own8 w0 wr v L) (hb : Below wr.heap.size wr w') : Own8 w0 w' v L := OwnE.below h hb
theorem Own8.nil {w0 wr : World} (hb : Below w0.heap.size w0 wr) : Own8 w0 wr (.slice none 0 0) [] := OwnE.nil _ _ hb
theorem bcells_app (l m : List UInt8) : Lib.byteCells (l ++ m) = Lib.byteCells l ++ Lib.byteCells m := by simp [Lib.byteCells]
theorem bcells_get (l : List UInt8) (k : Nat) (h : k < l.length) : (Lib.byteCells l)[k]? = some (.int .u8 ((l.getD k 0).toNat : Nat)) := by simp [Lib.byteCells, h]
theorem Own8.ex {w0 wr : World} {v : Value} {L : List UInt8} (h : Own8 w0 wr v L) : (v = .slice none 0 0 ∧ L = []) ∨ ∃ g cap, v = .slice (some ⟨g, 0, none⟩) L.length cap ∧ w0.heap.size ≤ g ∧ L.length ≤ cap := by
  obtain ⟨⟨h0, h⟩, _⟩ := h
  rcases h with ⟨rfl, h1⟩ | ⟨g, cap, cur, rfl, hg, _, hc, _⟩
  · exact .inl ⟨rfl, List.length_eq_zero_iff.1 h1⟩
  · exact .inr ⟨g, cap, rfl, hg, hc⟩
theorem Own8.cell {w0 wr : World} {g cap : Nat} {L : List UInt8} (h : Own8 w0 wr (.slice (some ⟨g, 0, none⟩) L.length cap) L) (k : Nat) (hk : k < L.length) : wr.cell? ⟨g, k, none⟩ = some (.int .u8 ((L.getD k 0).toNat : Nat)) := by
  rw [World.ownsRow.cellAt h.1 k (by omega), bcells_get L k hk]
theorem Own8.frozen {w0 wr : World} {g cap : Nat} {L : List UInt8} (h : Own8 w0 wr (.slice (some ⟨g, 0, none⟩) L.length cap) L) (k : Nat) : wr.frozen? ⟨g, k, none⟩ = false := World.ownsRow.frozenAt h.1 k
theorem Own8.set {w0 wr : World} {g cap : Nat} {L : List UInt8} (h : Own8 w0 wr (.slice (some ⟨g, 0, none⟩) L.length cap) L) (k : Nat) (x : UInt8) (hg : w0.heap.size ≤ g) : Own8 w0 (wr.setCell ⟨g, k, none⟩ (.int .u8 (x.toNat : Nat))) (.slice (some ⟨g, 0, none⟩) L.length cap) (L.set k x) := by
  obtain ⟨⟨hl, h1⟩, hB⟩ := h
  rcases h1 with ⟨h2, _⟩ | ⟨g', cap', cur, h2, hg', hh, hc, hm, hs, ht⟩
  · cases h2
  · cases h2
    refine ⟨⟨by simp [Lib.byteCells], .inr ⟨g, cap, cur.setIfInBounds k (.int .u8 (x.toNat : Nat)), by simp, hg', ?_, by simpa using hc, hm, by simpa using hs, ?_⟩⟩, bset hB (by exact hg) _⟩
    · unfold World.setCell
      simp only [Array.getElem?_modify, if_true]
      rw [hh]; rfl
    · rw [Array.toList_setIfInBounds, List.length_set, List.take_set, ht]
      simp [Lib.byteCells, List.map_set]
theorem Own8.str {w0 wr : World} {a : Option Addr} {c : Nat} {L : List UInt8} (h : Own8 w0 wr (.slice a L.length c) L) : (convert 100 9 (.slice a L.length c)).run Tryz.prog wr = .ok (.string ⟨L.toArray⟩) wr := by
  rcases h.ex with ⟨h1, h2⟩ | ⟨g, cap, h1, _⟩
  · subst h2
    cases h1
    exact run_convert_bytes_nil wr 100 5 Tryz.underlying100 Tryz.underlying5 0 0 9 Tryz.underlying9
  · cases h1
    refine run_convert_bytes_back wr 100 9 5 ⟨g, 0, none⟩ c L Tryz.underlying100 Tryz.underlying5 Tryz.underlying9 fun j hj => ?_
    have := h.cell j hj
    unfold Addr.add
    split
    · subst_vars; simpa [hj] using this
    · simpa [hj] using this
namespace Num
def dig (d : Nat) : UInt8 := UInt8.ofNat (48 + d)
theorem dig_nat {d : Nat} (h : d < 10) : (dig d).toNat = 48 + d := by
  unfold dig; rw [UInt8.toNat_ofNat']; omega
theorem asc_eq (l : List Nat) : asc l = (l.map dig).reverse := by unfold asc; rw [← List.map_reverse]; rfl
/-- turned about so far -/
def turned (T : List UInt8) (i : Nat) : List UInt8 := (List.range T.length).map fun j => if j < i ∨ T.length - 1 - j < i then T.getD (T.length - 1 - j) 0 else T.getD j 0
end Num


end Go.Proofs.YtdllbdfchloijaaGreatDoor

