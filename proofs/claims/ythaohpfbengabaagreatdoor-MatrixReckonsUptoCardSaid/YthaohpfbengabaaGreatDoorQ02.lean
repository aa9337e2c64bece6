/- Texts of this seat, laid together: App, IntF, RefA, RefB, RefC, Out, RefD, Lims, Ints, PrgA, PrgB. Each opens with its own remark, which says what it proves, and under which conditions. -/
import Derived.Test.YthaohpfbengabaaGreatDoorQ01
import Derived.Laws.AppendOwn
import Derived.Deep.AppendLies
set_option linter.unusedVariables false
set_option linter.unusedSimpArgs false
/- append of new cells to a row of the call's own, one law for all element types. -/
namespace Go.Proofs.YthaohpfbengabaaGreatDoor
open Num
open Go.ChangeShapes Go.WideShapes Go.ChangeAt Go.RowKit
/-- a row of a slice type: its element type, its size in cells and in bytes -/
structure Elt (P : Program) (T E : TypeId) (size bytes : Nat) : Prop where
  ht : P.underlying T = some (.slice E)
  info : ∃ i z, P.info? E = some i ∧ i.zero = some z ∧ i.size = size ∧ i.bytes = bytes ∧ z.cells.size = size
  pos : 0 < size
  small : bytes ≤ 128
theorem Elt.mk' {P : Program} {T E : TypeId} {size bytes : Nat} {z : Value} (ht : P.underlying T = some (.slice E)) (hi : (P.info? E).map (fun i => (i.zero, i.size, i.bytes)) = some (some z, size, bytes)) (hz : z.cells.size = size) (h1 : 0 < size) (h2 : bytes ≤ 128) : Elt P T E size bytes := by
  obtain ⟨i, h3, h4, h5, h6⟩ := info_parts hi
  exact ⟨ht, ⟨i, z, h3, h4, h5, h6, hz⟩, h1, h2⟩
/-- what the call owns since the world w0 -/
def OwnE (E : TypeId) (size : Nat) (w0 wr : World) (v : Value) (n : Nat) (xs : List Value) : Prop := wr.ownsRow w0.heap.size E size v n xs ∧ Below w0.heap.size w0 wr
theorem OwnE.below {E : TypeId} {size n : Nat} {w0 wr w' : World} {v : Value} {xs : List Value} (h : OwnE E size w0 wr v n xs) (hb : Below wr.heap.size wr w') : OwnE E size w0 w' v n xs :=
  ⟨own_below (w0 := w0) h.1 hb, bthen h.2 hb⟩
theorem OwnE.nil (E : TypeId) (size : Nat) {w0 wr : World} (hb : Below w0.heap.size w0 wr) : OwnE E size w0 wr (.slice none 0 0) 0 [] := ⟨World.ownsRow_nil _ _ _ _, hb⟩
theorem OwnE.ex {E : TypeId} {size n : Nat} {w0 wr : World} {v : Value} {xs : List Value} (h : OwnE E size w0 wr v n xs) : ∃ a c, v = .slice a n c := by
  rcases h.1.2 with ⟨rfl, rfl⟩ | ⟨g, c, _, rfl, _⟩
  · exact ⟨_, _, rfl⟩
  · exact ⟨_, _, rfl⟩
/-- append of what lies in a new block -/
theorem app_lit {P : Program} {T E : TypeId} {size bytes : Nat} {ops : Array Oper} {rest : List Oper} {o : Oper} {a : Act} {Q : Exit → Act → World → Prop} {w0 wr : World} {v : Value} {n : Nat} {xs C : List Value} {t : TypeId} (el : Elt P T E size bytes) (hgd : o.guard = none) {s x : Operand}
    (ho : o.op = .call { callee := .builtin .append, args := #[s, x], argTypes := #[T, T] }) (hO : OwnE E size w0 wr v n xs) (hs : a.eval s = v)
    {m c : Nat} (hx : a.eval x = .slice (some ⟨wr.heap.size, 0, none⟩) m c) (hl : C.length = m * size) (h1 : ∀ u ∈ C, u.oneCell' = true) (hn : n + m ≤ 1099511627776)
    (h : ∀ v' w', OwnE E size w0 w' v' (n + m) (xs ++ C) → wpList P ops Q rest (a.put o.dst v') w') : wpList P ops Q (o :: rest) a (wr.alloc (.cells C.toArray t)) := by
  obtain ⟨i, z, hi, hz, hsize, hby, hzs⟩ := el.info
  have hb : (n + m) * bytes ≤ 1099511627776 * 128 := Nat.mul_le_mul hn el.small
  refine wpList_append_own _ hgd s x T ho w0.heap.size E i z size bytes el.ht hi hz hsize hby hzs el.pos v n xs hs (hO.1.alloc _) ⟨wr.heap.size, 0, none⟩ m c C hx hl (cells_new wr C t) h1 (by unfold maxLen; omega) (by omega) (by have := hO.2.size; simp; omega) ?_
  intro v' w' hown hg _
  exact h v' w' ⟨hown, below_append (wr := wr) (bal hO.2 _) (hO.1.alloc _) hg⟩
theorem el32 : Elt Tryz.prog 34 133 1 4 := Elt.mk' Tryz.underlying34 info32 rfl (by decide) (by decide)
/-- limbs of the call's own -/
def Own32 (w0 wr : World) (v : Value) (L : List Nat) : Prop := OwnE 133 1 w0 wr v L.length (cel L)
theorem Own32.below {w0 wr w' : World} {v : Value} {L : List Nat} (h : Own32 w0 wr v L) (hb : Below wr.heap.size wr w') : Own32 w0 w' v L := OwnE.below h hb
theorem Own32.nil {w0 wr : World} (hb : Below w0.heap.size w0 wr) : Own32 w0 wr (.slice none 0 0) [] := OwnE.nil _ _ hb
theorem own_u32 {w : World} {base : Nat} {v : Value} {n : Nat} {L : List Nat} (h : w.ownsRow base 133 1 v n (cel L)) (hL : Limbs L) : ∃ a c, v = .slice a L.length c ∧ U32 w a c L := by
  obtain ⟨hl, h⟩ := h
  rw [cel_len, Nat.mul_one] at hl
  subst hl
  rcases h with ⟨rfl, h0⟩ | ⟨g, cap, cur, rfl, hg, hh, hn, hc, hs, ht⟩
  · have : L = [] := List.length_eq_zero_iff.1 h0
    subst this
    exact ⟨none, 0, rfl, Nat.le_refl _, by unfold maxLen; omega, hL, .inl rfl⟩
  · refine ⟨_, cap, rfl, hn, hc, hL, .inr ⟨g, 0, rfl, fun k hk => ?_, by unfold typOf; rw [hh]⟩⟩
    rw [Nat.mul_one] at ht
    have e : cur[k]? = some (.int .u32 (L.getD k 0 : Nat)) := by
      have := cel_get L k hk
      rw [← ht, List.getElem?_take, if_pos hk] at this
      simpa using this
    unfold World.cell?
    rw [Nat.zero_add, show w.heap[(⟨g, k, none⟩ : Addr).block]? = _ from hh]
    simpa using e
theorem Own32.u32 {w0 wr : World} {v : Value} {L : List Nat} (h : Own32 w0 wr v L) (hL : Limbs L) : ∃ a c, v = .slice a L.length c ∧ U32 wr a c L := own_u32 h.1 hL
theorem cel_app (l m : List Nat) : cel (l ++ m) = cel l ++ cel m := by simp [cel]
theorem app32 {ops : Array Oper} {rest : List Oper} {o : Oper} {a : Act} {Q : Exit → Act → World → Prop} {w0 wr : World} {v : Value} {L X : List Nat} {t : TypeId} (hgd : o.guard = none) {s x : Operand}
    (ho : o.op = .call { callee := .builtin .append, args := #[s, x], argTypes := #[34, 34] }) (hO : Own32 w0 wr v L) (hs : a.eval s = v)
    {c : Nat} (hx : a.eval x = .slice (some ⟨wr.heap.size, 0, none⟩) X.length c) (hn : L.length + X.length ≤ 1099511627776)
    (h : ∀ v' w', Own32 w0 w' v' (L ++ X) → wpList Tryz.prog ops Q rest (a.put o.dst v') w') : wpList Tryz.prog ops Q (o :: rest) a (wr.alloc (.cells (cel X).toArray t)) :=
  app_lit el32 hgd ho hO hs hx (by rw [cel_len, Nat.mul_one]) (cel_one X) hn fun v' w' hO' => h v' w' (by unfold Own32; rw [cel_app, List.length_append]; exact hO')
end Go.Proofs.YthaohpfbengabaaGreatDoor

/- slices.Clone at limbs; integer: Limbs. -/
namespace Go.Proofs.YthaohpfbengabaaGreatDoor
open Num
open Go.ChangeShapes Go.WideShapes Go.ChangeAt Go.RowKit
set_option linter.unusedVariables false
set_option linter.unusedSimpArgs false

end Go.Proofs.YthaohpfbengabaaGreatDoor

/- The reference's numbers (digits to the base 65536): norm, Of, Make, Sign. -/
namespace Go.Proofs.YthaohpfbengabaaGreatDoor
open Num
open Go.ChangeShapes Go.WideShapes Go.ChangeAt Go.RowKit
set_option linter.unusedVariables false
set_option linter.unusedSimpArgs false

/-- a value is the reference's number z -/
def IsRef (w : World) (v : Value) (z : Int) : Prop := ∃ neg a cap l, v = iv neg a (List.length l) cap ∧ U32 w a cap l ∧ NumR.Limbs l ∧ Nrm l ∧ (neg = true → l ≠ []) ∧ z = sg neg (NumR.val l)
theorem IsRef.keep {w w' : World} {v : Value} {z : Int} (h : IsRef w v z) (hb : Below w.heap.size w w') : IsRef w' v z := by
  obtain ⟨neg, a, cap, l, h1, h2, h3⟩ := h
  exact ⟨neg, a, cap, l, h1, h2.keep hb, h3⟩
theorem IsRef.put {w : World} {x : Value} {z : Int} {p : Addr} {v : Value} (h : IsRef w x z) (hp : w.cell? p = some v) (hv : ∀ n, v ≠ .int .u32 n) (u : Value) : IsRef (w.setCell p u) x z := by
  obtain ⟨neg, a, cap, l, h1, h2, h3⟩ := h
  exact ⟨neg, a, cap, l, h1, h2.put hp hv u, h3⟩
theorem IsRef.put2 {w : World} {x : Value} {z : Int} {g : Nat} {b : Bool} {a : Option Addr} {n c : Nat} (h : IsRef w x z) (r0 : w.cell? ⟨g, 0, none⟩ = some (.bool b)) (r1 : w.cell? ⟨g, 1, none⟩ = some (.slice a n c)) (u v : Value) : IsRef ((w.setCell ⟨g, 0, none⟩ u).setCell ⟨g, 1, none⟩ v) x z :=
  (h.put r0 (fun _ e => by cases e) u).put (cell_far r1 (by simp) u) (fun _ e => by cases e) v
theorem U32.cap {w : World} {a : Option Addr} {cap : Nat} {l m : List Nat} (h : U32 w a cap l) (hp : m <+: l) : U32 w a cap m :=
  ⟨Nat.le_trans hp.length_le h.1, h.2.1, fun x hx => h.2.2.1 x (hp.subset hx), h.2.2.2.take hp⟩

set_option maxRecDepth 100000 in
set_option maxHeartbeats 1000000 in
theorem rnormK_c (neg : Bool) (a : Option Addr) (ca : Nat) (l : List Nat) (w : World) (ha : U32 w a ca l) :
    Calls Tryz.prog 100 #[.bool neg, .slice a l.length ca] w fun e w' => e = .returned (iv (neg && decide (0 < (trimL l).length)) a (trimL l).length ca) ∧ Below w.heap.size w w' := by
  obtain ⟨hc, hm, hl, hcs⟩ := ha
  unfold maxLen at hm
  go_enter Tryz.func100, Tryz.ntmps100
  go_wp2
  go_loop [5] (fun x => ∃ k : Nat, k ≤ l.length ∧ x = .int .i64 k ∧ trimL (l.take k) = trimL l) (fun x => (intOf x).toNat)
  case atStart => exact ⟨l.length, Nat.le_refl _, rfl, by rw [List.take_length]⟩
  case round =>
    obtain ⟨k, hk, rfl, ht⟩ := hrel
    have HT := Lib.hid ht
    clear ht
    cases k with
    | zero =>
      have hz : (trimL l).length = 0 := by have := HT.out; rw [List.take_zero] at this; rw [← this]; rfl
      have HZ := Lib.hid hz
      clear hz
      cases neg with
      | true =>
        go_wp2
        refine bodyPost_ret (v := iv false a 0 ca) (by simp [iv, results, Tryz.results100, go_sem, *]) rfl ⟨by rw [HZ.out] <;> simp, ?_⟩
        repeat (first | exact Below.refl _ _ | exact Below.refl _ _ | refine Below.drew ?_ | refine below_drewN ?_ _ | refine bset ?_ (by simp <;> omega) _ | refine bal ?_ _)
      | false =>
        go_wp2
        refine bodyPost_ret (v := iv false a 0 ca) (by simp [iv, results, Tryz.results100, go_sem, *]) rfl ⟨by rw [HZ.out] <;> simp, ?_⟩
        repeat (first | exact Below.refl _ _ | exact Below.refl _ _ | refine Below.drew ?_ | refine below_drewN ?_ _ | refine bset ?_ (by simp <;> omega) _ | refine bal ?_ _)
    | succ j =>
      rcases hcs with rfl | ⟨b, off, rfl, hcell⟩
      · simp at hk
      have hj := cell_alloc (hcell j (by omega)) (.cells #[.bool false, .slice none 0 0] 43)
      by_cases h0 : l.getD j 0 = 0
      · have HN := Lib.hid (trim_take_zero (by omega : j < l.length) h0)
        rw [h0] at hj
        go_wp2
        exact ⟨⟨j, by omega, rfl, HN.out.symm.trans HT.out⟩, by simp [intOf] <;> omega⟩
      · have HN := Lib.hid (trim_take_pos (by omega : j < l.length) h0)
        generalize hx : l.getD j 0 = x at *
        have hx0 : ((x : Int) == 0) = false := by simp; omega
        have HL := Lib.hid (show (trimL l).length = j + 1 by rw [← HT.out, HN.out]; simp; omega)
        cases neg with
        | true =>
          go_wp2
          refine bodyPost_ret (v := iv true (some ⟨b, off, none⟩) (j + 1) ca) (by simp [iv, results, Tryz.results100, go_sem, *]) rfl ⟨by rw [HL.out] <;> simp, ?_⟩
          repeat (first | exact Below.refl _ _ | exact Below.refl _ _ | refine Below.drew ?_ | refine below_drewN ?_ _ | refine bset ?_ (by simp <;> omega) _ | refine bal ?_ _)
        | false =>
          go_wp2
          refine bodyPost_ret (v := iv false (some ⟨b, off, none⟩) (j + 1) ca) (by simp [iv, results, Tryz.results100, go_sem, *]) rfl ⟨by rw [HL.out] <;> simp, ?_⟩
          repeat (first | exact Below.refl _ _ | exact Below.refl _ _ | refine Below.drew ?_ | refine below_drewN ?_ _ | refine bset ?_ (by simp <;> omega) _ | refine bal ?_ _)

theorem rnorm_c (neg : Bool) (a : Option Addr) (ca : Nat) (l : List Nat) (w : World) (ha : U32 w a ca l) (hr : NumR.Limbs l) :
    Calls Tryz.prog 100 #[.bool neg, .slice a l.length ca] w fun e w' => (∃ v, e = .returned v ∧ IsRef w' v (sg neg (NumR.val l))) ∧ Below w.heap.size w w' := by
  have key := rnormK_c neg a ca l w ha
  refine key.mono ?_
  rintro e w1 ⟨rfl, hB⟩
  refine ⟨⟨_, rfl, _, a, ca, trimL l, rfl, (ha.cap (trim_prefix l)).keep hB, NumR.trim_limbs hr, trim_nrm l, ?_, ?_⟩, hB⟩
  · intro h; simp at h; intro e; rw [e] at h; simp at h
  · rw [← NumR.val_trim l]
    by_cases h0 : trimL l = []
    · rw [h0]; simp [sg, NumR.val]
    · have : 0 < (trimL l).length := List.length_pos_iff.2 h0
      simp [this, sg]
end Go.Proofs.YthaohpfbengabaaGreatDoor

/- The reference's numbers: Of, Make. -/
namespace Go.Proofs.YthaohpfbengabaaGreatDoor
open Num
open Go.ChangeShapes Go.WideShapes Go.ChangeAt Go.RowKit
set_option linter.unusedVariables false
set_option linter.unusedSimpArgs false
namespace NumR
theorem limbs_snoc {l : List Nat} {x : Nat} (h : Limbs l) (hx : x < BB) : Limbs (l ++ [x]) := by
  intro y hy
  rcases List.mem_append.1 hy with h1 | h1
  · exact h y h1
  · rw [List.mem_singleton.1 h1]; exact hx
theorem big {l : Nat} {u m : Nat} (hm : m < 18446744073709551616) (hu : 0 < u) (h : BB ^ l * u ≤ m) : l ≤ 3 := by
  apply Nat.le_of_not_lt
  intro h4
  have h1 : BB ^ 4 ≤ BB ^ l := Nat.pow_le_pow_right BB_pos (by omega)
  have h2 : BB ^ 4 = 18446744073709551616 := by unfold BB; rfl
  have h3 : BB ^ l * 1 ≤ BB ^ l * u := Nat.mul_le_mul_left _ (by omega)
  omega
end NumR
theorem w32 {x : Nat} (h : x < BB) : IntKind.u32.wrap (x : Int) = (x : Int) := by
  unfold BB at h
  simp only [IntKind.wrap, IntKind.bits, IntKind.signed]
  simp
  omega
theorem limbs_of_r {l : List Nat} (h : NumR.Limbs l) : Limbs l := fun x hx => by have := h x hx; unfold NumR.BB at this; unfold BB; omega

set_option maxRecDepth 100000 in
set_option maxHeartbeats 1000000 in
theorem rof_c (n : Int) (w : World) (h1 : -9223372036854775808 ≤ n) (h2 : n ≤ 9223372036854775807) :
    Calls Tryz.prog 42 #[.int .i64 n] w fun e w' => (∃ v, e = .returned v ∧ IsRef w' v n) ∧ Below w.heap.size w w' := by
  obtain ⟨i0, hi, hz0, hz1, hz2⟩ := info_parts info32
  obtain ⟨m, hm⟩ : ∃ m : Nat, m = n.natAbs := ⟨_, rfl⟩
  have hmB : m < 18446744073709551616 := by omega
  by_cases h0 : n < 0
  · have e1 : IntKind.u64.wrap (-IntKind.u64.wrap n) = (m : Int) := by
      simp only [IntKind.wrap, IntKind.bits, IntKind.signed]
      simp
      omega
    have HS := Lib.hid (show sg true m = n by simp [sg]; omega)
    clear hm
    go_enter Tryz.func42, Tryz.ntmps42
    go_wp2
    have hB := Below.refl w.heap.size w
    refine wp_name fun w0 hW0 => ?_
    have r0f : w0.frozen? ⟨w.heap.size, 0, none⟩ = false := by rw [hW0]; simp [go_sem, *]
    have r0 : w0.cell? ⟨w.heap.size, 0, none⟩ = some (.bool false) := by rw [hW0]; exact (by first | assumption | exact cell_new (by with_reducible first | rfl | (simp; done) | (simp; omega)) rfl | (repeat (first | assumption | exact cell_new (by with_reducible first | rfl | (simp; done) | (simp; omega)) rfl | refine cell_alloc ?_ _ | refine cell_drew ?_ | refine cell_drewN ?_ _ | refine cell_far ?_ (by simp) _ | (refine cell_far ?_ (by simp <;> omega) _))) | simp [go_sem, *])
    have zr0 := cell_lt r0
    have r1f : w0.frozen? ⟨w.heap.size, 1, none⟩ = false := by rw [hW0]; simp [go_sem, *]
    have r1 : w0.cell? ⟨w.heap.size, 1, none⟩ = some (.slice none 0 0) := by rw [hW0]; exact (by first | assumption | exact cell_new (by with_reducible first | rfl | (simp; done) | (simp; omega)) rfl | (repeat (first | assumption | exact cell_new (by with_reducible first | rfl | (simp; done) | (simp; omega)) rfl | refine cell_alloc ?_ _ | refine cell_drew ?_ | refine cell_drewN ?_ _ | refine cell_far ?_ (by simp) _ | (refine cell_far ?_ (by simp <;> omega) _))) | simp [go_sem, *])
    have hB : Below w.heap.size w w0 := by rw [hW0]; repeat (first | exact Below.refl _ _ | exact hB | refine Below.drew ?_ | refine below_drewN ?_ _ | refine bset ?_ (by simp <;> omega) _ | refine bal ?_ _)
    have hz : w.heap.size ≤ w0.heap.size := hB.size
    clear hW0
    go_loopw [3, 4] (fun x d wr => ∃ (u : Nat) (L : List Nat), x = .int .u64 u ∧ Own32 w0 wr d L ∧ NumR.Limbs L ∧ Hid (NumR.val L + NumR.BB ^ L.length * u = m)) (fun x _ _ => (intOf x).toNat)
    case atStart => exact ⟨m, [], rfl, Own32.nil (Below.refl _ _), (fun _ h => by cases h), Lib.hid (by simp [NumR.val])⟩
    case round =>
      obtain ⟨u, L, rfl, hO, hL, hV⟩ := hrel
      by_cases hu : 0 < u
      · have hl := NumR.big hmB hu (Nat.le_trans (Nat.le_add_left _ _) (Nat.le_of_eq hV.out))
        have hum : u ≤ m := by
          have h1 := hV.out
          have h2 : 1 * u ≤ NumR.BB ^ L.length * u := Nat.mul_le_mul_right _ (Nat.pow_pos NumR.BB_pos)
          omega
        obtain ⟨y, hy⟩ : ∃ y, y = u % 65536 := ⟨_, rfl⟩
        obtain ⟨z, hz⟩ : ∃ z, z = u / 65536 := ⟨_, rfl⟩
        have ey : (u : Int) % 65536 = (y : Int) := by omega
        have ez : (u : Int) / 65536 = (z : Int) := by omega
        have hyB : y < 65536 := by omega
        have hzu : z < u := by omega
        have ez2 := w64 (x := z) (by unfold BB; omega)
        have HU := Lib.hid (show y + 65536 * z = u by omega)
        clear hy hz
        go_wp2_with (at_builtin; refine app32 (X := [y]) rfl rfl hO rfl rfl ?_ ?_; (simp; omega); intro v' w1 hO1; clear hO)
        refine ⟨⟨z, L ++ [y], rfl, hO1, NumR.limbs_snoc hL hyB, Lib.hid ?_⟩, by simp [intOf] <;> omega⟩
        rw [← hV.out, ← HU.out, NumR.val_append, List.length_append, List.length_singleton, Nat.pow_succ]
        simp only [NumR.val, Nat.mul_add, Nat.mul_zero, Nat.add_zero, Nat.mul_assoc, Nat.add_assoc]
        rfl
      · obtain rfl : u = 0 := by omega
        have HV := Lib.hid (show NumR.val L = m by simpa using hV.out)
        clear hV
        obtain ⟨a1, c1, rfl, hU⟩ := hO.u32 (limbs_of_r hL)
        have hB1 := hO.2
        have r0f := bkeepf hB1 r0 r0f
        have r0 := bkeep hB1 r0
        have r1f := bkeepf hB1 r1 r1f
        have r1 := bkeep hB1 r1
        have hB := bthen hB hB1
        have hz := hB.size
        clear hO
        go_wp2_with fail
        refine (rnorm_c true a1 c1 L wr hU hL).mono ?_
        rintro e w2 ⟨⟨v, rfl, hi⟩, hb2⟩
        have r0f := bkeepf hb2 r0 r0f
        have r0 := bkeep hb2 r0
        have r1f := bkeepf hb2 r1 r1f
        have r1 := bkeep hb2 r1
        have hB := bthen hB hb2
        have hz := hB.size
        rw [HV.out, HS.out] at hi
        have HI2 := Lib.hid (hi.put2 r0 r1)
        obtain ⟨n2, a2, c2, l2, rfl, _, _, _, _, _⟩ := hi
        unfold iv at *
        go_wp2
        refine bodyPost_ret (v := .agg #[.bool n2, .slice a2 l2.length c2]) (by simp [results, Tryz.results42, go_sem, *]) rfl ⟨⟨_, rfl, HI2.out _ _⟩, ?_⟩
        repeat (first | exact Below.refl _ _ | exact hB | refine Below.drew ?_ | refine below_drewN ?_ _ | refine bset ?_ (by simp <;> omega) _ | refine bal ?_ _)
  · obtain rfl : n = m := by omega
    have HS := Lib.hid (show sg false m = m by simp [sg])
    clear hm
    go_enter Tryz.func42, Tryz.ntmps42
    go_wp2
    have hB := Below.refl w.heap.size w
    refine wp_name fun w0 hW0 => ?_
    have r0f : w0.frozen? ⟨w.heap.size, 0, none⟩ = false := by rw [hW0]; simp [go_sem, *]
    have r0 : w0.cell? ⟨w.heap.size, 0, none⟩ = some (.bool false) := by rw [hW0]; exact (by first | assumption | exact cell_new (by with_reducible first | rfl | (simp; done) | (simp; omega)) rfl | (repeat (first | assumption | exact cell_new (by with_reducible first | rfl | (simp; done) | (simp; omega)) rfl | refine cell_alloc ?_ _ | refine cell_drew ?_ | refine cell_drewN ?_ _ | refine cell_far ?_ (by simp) _ | (refine cell_far ?_ (by simp <;> omega) _))) | simp [go_sem, *])
    have zr0 := cell_lt r0
    have r1f : w0.frozen? ⟨w.heap.size, 1, none⟩ = false := by rw [hW0]; simp [go_sem, *]
    have r1 : w0.cell? ⟨w.heap.size, 1, none⟩ = some (.slice none 0 0) := by rw [hW0]; exact (by first | assumption | exact cell_new (by with_reducible first | rfl | (simp; done) | (simp; omega)) rfl | (repeat (first | assumption | exact cell_new (by with_reducible first | rfl | (simp; done) | (simp; omega)) rfl | refine cell_alloc ?_ _ | refine cell_drew ?_ | refine cell_drewN ?_ _ | refine cell_far ?_ (by simp) _ | (refine cell_far ?_ (by simp <;> omega) _))) | simp [go_sem, *])
    have hB : Below w.heap.size w w0 := by rw [hW0]; repeat (first | exact Below.refl _ _ | exact hB | refine Below.drew ?_ | refine below_drewN ?_ _ | refine bset ?_ (by simp <;> omega) _ | refine bal ?_ _)
    have hz : w.heap.size ≤ w0.heap.size := hB.size
    clear hW0
    go_loopw [3, 4] (fun x d wr => ∃ (u : Nat) (L : List Nat), x = .int .u64 u ∧ Own32 w0 wr d L ∧ NumR.Limbs L ∧ Hid (NumR.val L + NumR.BB ^ L.length * u = m)) (fun x _ _ => (intOf x).toNat)
    case atStart => exact ⟨m, [], rfl, Own32.nil (Below.refl _ _), (fun _ h => by cases h), Lib.hid (by simp [NumR.val])⟩
    case round =>
      obtain ⟨u, L, rfl, hO, hL, hV⟩ := hrel
      by_cases hu : 0 < u
      · have hl := NumR.big hmB hu (Nat.le_trans (Nat.le_add_left _ _) (Nat.le_of_eq hV.out))
        have hum : u ≤ m := by
          have h1 := hV.out
          have h2 : 1 * u ≤ NumR.BB ^ L.length * u := Nat.mul_le_mul_right _ (Nat.pow_pos NumR.BB_pos)
          omega
        obtain ⟨y, hy⟩ : ∃ y, y = u % 65536 := ⟨_, rfl⟩
        obtain ⟨z, hz⟩ : ∃ z, z = u / 65536 := ⟨_, rfl⟩
        have ey : (u : Int) % 65536 = (y : Int) := by omega
        have ez : (u : Int) / 65536 = (z : Int) := by omega
        have hyB : y < 65536 := by omega
        have hzu : z < u := by omega
        have ez2 := w64 (x := z) (by unfold BB; omega)
        have HU := Lib.hid (show y + 65536 * z = u by omega)
        clear hy hz
        go_wp2_with (at_builtin; refine app32 (X := [y]) rfl rfl hO rfl rfl ?_ ?_; (simp; omega); intro v' w1 hO1; clear hO)
        refine ⟨⟨z, L ++ [y], rfl, hO1, NumR.limbs_snoc hL hyB, Lib.hid ?_⟩, by simp [intOf] <;> omega⟩
        rw [← hV.out, ← HU.out, NumR.val_append, List.length_append, List.length_singleton, Nat.pow_succ]
        simp only [NumR.val, Nat.mul_add, Nat.mul_zero, Nat.add_zero, Nat.mul_assoc, Nat.add_assoc]
        rfl
      · obtain rfl : u = 0 := by omega
        have HV := Lib.hid (show NumR.val L = m by simpa using hV.out)
        clear hV
        obtain ⟨a1, c1, rfl, hU⟩ := hO.u32 (limbs_of_r hL)
        have hB1 := hO.2
        have r0f := bkeepf hB1 r0 r0f
        have r0 := bkeep hB1 r0
        have r1f := bkeepf hB1 r1 r1f
        have r1 := bkeep hB1 r1
        have hB := bthen hB hB1
        have hz := hB.size
        clear hO
        go_wp2_with fail
        refine (rnorm_c false a1 c1 L wr hU hL).mono ?_
        rintro e w2 ⟨⟨v, rfl, hi⟩, hb2⟩
        have r0f := bkeepf hb2 r0 r0f
        have r0 := bkeep hb2 r0
        have r1f := bkeepf hb2 r1 r1f
        have r1 := bkeep hb2 r1
        have hB := bthen hB hb2
        have hz := hB.size
        rw [HV.out, HS.out] at hi
        have HI2 := Lib.hid (hi.put2 r0 r1)
        obtain ⟨n2, a2, c2, l2, rfl, _, _, _, _, _⟩ := hi
        unfold iv at *
        go_wp2
        refine bodyPost_ret (v := .agg #[.bool n2, .slice a2 l2.length c2]) (by simp [results, Tryz.results42, go_sem, *]) rfl ⟨⟨_, rfl, HI2.out _ _⟩, ?_⟩
        repeat (first | exact Below.refl _ _ | exact hB | refine Below.drew ?_ | refine below_drewN ?_ _ | refine bset ?_ (by simp <;> omega) _ | refine bal ?_ _)
end Go.Proofs.YthaohpfbengabaaGreatDoor

/- The reference's numbers: size, Sign, Cmp, Same. -/
namespace Go.Proofs.YthaohpfbengabaaGreatDoor
open Num
open Go.ChangeShapes Go.WideShapes Go.ChangeAt Go.RowKit
set_option linter.unusedVariables false
set_option linter.unusedSimpArgs false

set_option maxRecDepth 100000 in
set_option maxHeartbeats 1000000 in
theorem rsize_c (a b : Option Addr) (ca cb : Nat) (L M : List Nat) (w : World) (ha : U32 w a ca L) (hb : U32 w b cb M) (hL : NumR.Limbs L) (hM : NumR.Limbs M) (na : Nrm L) (nb : Nrm M) :
    Calls Tryz.prog 161 #[.slice a L.length ca, .slice b M.length cb] w fun e w' => e = .returned (.int .i64 (cmpN (NumR.val L) (NumR.val M))) ∧ Below w.heap.size w w' := by
  obtain ⟨hLca, hLm, -, hLc⟩ := ha
  obtain ⟨hMcb, hMm, -, hMc⟩ := hb
  unfold maxLen at hLm hMm
  rcases Nat.lt_trichotomy L.length M.length with hlt | heq | hgt
  · have hne : ((L.length : Int) != (M.length : Int)) = true := by simp; omega
    go_enter Tryz.func161, Tryz.ntmps161
    go_wp2
    go_ret
    exact ⟨by rw [cmpN_lt (NumR.val_lt_of_len hL nb hlt)]; rfl, Below.refl _ _⟩
  · clear na nb
    have HQ := Lib.hid heq
    clear heq
    generalize hM' : M.length = n at *
    have HM := Lib.hid hM'
    clear hM'
    generalize hL' : L.length = n' at *
    obtain rfl : n' = n := HQ.out
    have HL := Lib.hid hL'
    clear hL' HQ
    have hne : ((n' : Int) != (n' : Int)) = false := by simp
    go_enter Tryz.func161, Tryz.ntmps161
    go_wp2
    go_loopw [5] (fun x wr => ∃ k : Nat, k ≤ n' ∧ x = .int .i64 ((k : Int) - 1) ∧ L.drop k = M.drop k ∧ Below w.heap.size w wr) (fun x _ => (intOf x + 1).toNat)
    case atStart =>
      refine ⟨n', Nat.le_refl _, rfl, ?_, Below.refl _ _⟩
      rw [List.drop_eq_nil_of_le (by have := HL.out; omega), List.drop_eq_nil_of_le (by have := HM.out; omega)]
    case round =>
      obtain ⟨k, hk, rfl, hd, hB⟩ := hrel
      have HD := Lib.hid hd
      clear hd
      cases k with
      | zero =>
        go_wp2
        go_ret
        have e : L = M := by simpa using HD.out
        exact ⟨by rw [cmpN_eq (by rw [e])]; rfl, hB⟩
      | succ j =>
        have hjL : j < L.length := by have := HL.out; omega
        have hjM : j < M.length := by have := HM.out; omega
        rcases hLc with rfl | ⟨ba, oa, rfl, hca⟩
        · simp at hjL
        rcases hMc with rfl | ⟨bb, ob, rfl, hcb⟩
        · simp at hjM
        have cj := bkeep hB (hca j (by omega))
        have dj := bkeep hB (hcb j (by omega))
        have HLt := Lib.hid (fun h => NumR.val_lt_of_top hjL hjM hL HD.out h)
        have HGt := Lib.hid (fun h => NumR.val_lt_of_top hjM hjL hM HD.out.symm h)
        have HEq := Lib.hid (fun h => NumR.drop_step hjL hjM HD.out h)
        have hjn : (j : Int) < (n' : Int) := by omega
        generalize L.getD j 0 = x at *
        generalize M.getD j 0 = y at *
        rcases Nat.lt_trichotomy x y with h1 | h1 | h1
        · have h1' : (x : Int) < (y : Int) := by omega
          go_wp2
          go_quiet (fail)
          go_wp2
          go_ret
          exact ⟨by rw [cmpN_lt (HLt.out h1)]; rfl, by repeat (first | exact hB | refine below_drewN ?_ _)⟩
        · subst h1
          go_wp2
          go_quiet (fail)
          go_wp2
          go_quiet (fail)
          go_wp2
          exact ⟨⟨j, by omega, rfl, HEq.out (by trivial), by repeat (first | exact hB | refine below_drewN ?_ _)⟩, by simp [intOf] <;> omega⟩
        · have h1' : ¬ ((x : Int) < (y : Int)) := by omega
          have h1'' : ((y : Int) < (x : Int)) := by omega
          go_wp2
          go_quiet (fail)
          go_wp2
          go_quiet (fail)
          go_wp2
          go_ret
          exact ⟨by rw [cmpN_gt (HGt.out h1)]; rfl, by repeat (first | exact hB | refine below_drewN ?_ _)⟩
  · have hne : ((L.length : Int) != (M.length : Int)) = true := by simp; omega
    have hc1 : ¬ (L.length < M.length) := by omega
    go_enter Tryz.func161, Tryz.ntmps161
    go_wp2
    go_ret
    exact ⟨by rw [cmpN_gt (NumR.val_lt_of_len hM na hgt)]; rfl, Below.refl _ _⟩

theorem rsg_sign {neg : Bool} {l : List Nat} (hn : Nrm l) (hs : neg = true → l ≠ []) : (sg neg (NumR.val l)).sign = if l.length = 0 then 0 else if neg then -1 else 1 := by
  by_cases h0 : l = []
  · subst h0; cases neg <;> simp [sg, NumR.val]
  · have h1 : 0 < NumR.val l := Nat.pos_of_ne_zero (fun e => h0 ((NumR.val_nil_iff hn).1 e))
    have h2 : l.length ≠ 0 := by simpa using h0
    rw [if_neg h2]
    cases neg with
    | true => simp only [sg, if_true]; rw [Int.sign_neg, Int.sign_eq_one_of_pos (by omega)]
    | false => simp only [sg]; exact Int.sign_eq_one_of_pos (by simp; omega)

/-- the sign, by a number's parts -/
def sgV (n : Bool) (k : Nat) : Int := if k = 0 then 0 else if n then -1 else 1
theorem sgV_neg {n : Bool} {k : Nat} (h : sgV n k < 0) : n = true := by
  cases n with
  | true => rfl
  | false => exfalso; revert h; unfold sgV; split <;> simp
set_option maxRecDepth 100000 in
set_option maxHeartbeats 1000000 in
theorem rsignV_c (n1 : Bool) (a1 : Option Addr) (k c1 : Nat) (w : World) :
    Calls Tryz.prog 52 #[.agg #[.bool n1, .slice a1 k c1]] w fun e w' => e = .returned (.int .i64 (sgV n1 k)) ∧ Below w.heap.size w w' := by
  have hB0 := Below.refl w.heap.size w
  have HS := Lib.hid (show sgV n1 k = sgV n1 k from rfl)
  cases k with
  | zero =>
    go_enter Tryz.func52, Tryz.ntmps52
    go_wp2
    go_ret
    refine ⟨rfl, ?_⟩
    repeat (first | exact Below.refl _ _ | exact hB0 | refine Below.drew ?_ | refine below_drewN ?_ _ | refine bset ?_ (by simp <;> omega) _ | refine bal ?_ _)
  | succ k =>
    cases n1 with
    | true =>
      go_enter Tryz.func52, Tryz.ntmps52
      go_wp2
      go_ret
      refine ⟨rfl, ?_⟩
      repeat (first | exact Below.refl _ _ | exact hB0 | refine Below.drew ?_ | refine below_drewN ?_ _ | refine bset ?_ (by simp <;> omega) _ | refine bal ?_ _)
    | false =>
      go_enter Tryz.func52, Tryz.ntmps52
      go_wp2
      go_ret
      refine ⟨rfl, ?_⟩
      repeat (first | exact Below.refl _ _ | exact hB0 | refine Below.drew ?_ | refine below_drewN ?_ _ | refine bset ?_ (by simp <;> omega) _ | refine bal ?_ _)

namespace Num
theorem cmpI_sign_lt {x y : Int} (h : x.sign < y.sign) : cmpI x y = -1 := by
  unfold cmpI
  rw [if_pos]
  rcases Int.lt_trichotomy x 0 with h1 | h1 | h1 <;> rcases Int.lt_trichotomy y 0 with h2 | h2 | h2 <;>
    first
      | (rw [Int.sign_eq_neg_one_of_neg h1, Int.sign_eq_neg_one_of_neg h2] at h; omega)
      | (rw [Int.sign_eq_one_of_pos h1, Int.sign_eq_one_of_pos h2] at h; omega)
      | (rw [Int.sign_eq_one_of_pos h1, Int.sign_eq_neg_one_of_neg h2] at h; omega)
      | (subst h1; rw [Int.sign_eq_neg_one_of_neg h2] at h; simp at h; done)
      | (subst h2; rw [Int.sign_eq_one_of_pos h1] at h; simp at h; done)
      | (subst h1; subst h2; simp at h; done)
      | omega
theorem cmpI_swap (x y : Int) : cmpI x y = -cmpI y x := by
  unfold cmpI
  (repeat' split) <;> first | rfl | omega
theorem cmpI_sign_gt {x y : Int} (h : y.sign < x.sign) : cmpI x y = 1 := by
  rw [cmpI_swap, cmpI_sign_lt h]; rfl
end Num

set_option maxRecDepth 100000 in
set_option maxHeartbeats 2000000 in
theorem rcmp_c (vx vy : Value) (x y : Int) (w : World) (hx : IsRef w vx x) (hy : IsRef w vy y) :
    Calls Tryz.prog 142 #[vx, vy] w fun e w' => e = .returned (.int .i64 (cmpI x y)) ∧ Below w.heap.size w w' := by
  obtain ⟨n1, a1, c1, l1, rfl, u1, q1, g1, s1, hv1⟩ := hx
  obtain ⟨n2, a2, c2, l2, rfl, u2, q2, g2, s2, hv2⟩ := hy
  have hB := Below.refl w.heap.size w
  have e1 : sgV n1 l1.length = x.sign := by rw [hv1, rsg_sign g1 s1]; rfl
  have e2 : sgV n2 l2.length = y.sign := by rw [hv2, rsg_sign g2 s2]; rfl
  have sc1 : ∀ w, _ := fun w => rsignV_c n1 a1 l1.length c1 w
  have sc2 : ∀ w, _ := fun w => rsignV_c n2 a2 l2.length c2 w
  rw [e1] at sc1
  rw [e2] at sc2
  have HX := Lib.hid hv1
  have HY := Lib.hid hv2
  have HE1 := Lib.hid e1
  have HE2 := Lib.hid e2
  clear hv1 hv2 e1 e2
  unfold iv
  have hcase : x.sign < y.sign ∨ y.sign < x.sign ∨ x.sign = y.sign := by omega
  have hbx : -1 ≤ x.sign ∧ x.sign ≤ 1 := by
    rw [← HE1.out]; unfold sgV; (repeat' split) <;> omega
  rcases hcase with h | h | h
  · have HC := Lib.hid (cmpI_sign_lt h)
    have t1 : (x.sign != y.sign) = true := by simp; omega
    generalize x.sign = X at *
    generalize y.sign = Y at *
    go_enter Tryz.func142, Tryz.ntmps142
    go_wp2
    refine wp_name fun w0 hW0 => ?_
    have x0 : w0.cell? ⟨w.heap.size, 0, none⟩ = some (.bool n1) := by rw [hW0]; exact (by first | assumption | exact cell_new (by with_reducible first | rfl | (simp; done) | (simp; omega)) rfl | (repeat (first | assumption | exact cell_new (by with_reducible first | rfl | (simp; done) | (simp; omega)) rfl | refine cell_alloc ?_ _ | refine cell_drew ?_ | refine cell_drewN ?_ _ | refine cell_far ?_ (by simp) _ | (refine cell_far ?_ (by simp <;> omega) _))) | simp [go_sem, *])
    have zx0 := cell_lt x0
    have x1 : w0.cell? ⟨w.heap.size, 1, none⟩ = some (.slice a1 l1.length c1) := by rw [hW0]; exact (by first | assumption | exact cell_new (by with_reducible first | rfl | (simp; done) | (simp; omega)) rfl | (repeat (first | assumption | exact cell_new (by with_reducible first | rfl | (simp; done) | (simp; omega)) rfl | refine cell_alloc ?_ _ | refine cell_drew ?_ | refine cell_drewN ?_ _ | refine cell_far ?_ (by simp) _ | (refine cell_far ?_ (by simp <;> omega) _))) | simp [go_sem, *])
    have y0 : w0.cell? ⟨w.heap.size + 1, 0, none⟩ = some (.bool n2) := by rw [hW0]; exact (by first | assumption | exact cell_new (by with_reducible first | rfl | (simp; done) | (simp; omega)) rfl | (repeat (first | assumption | exact cell_new (by with_reducible first | rfl | (simp; done) | (simp; omega)) rfl | refine cell_alloc ?_ _ | refine cell_drew ?_ | refine cell_drewN ?_ _ | refine cell_far ?_ (by simp) _ | (refine cell_far ?_ (by simp <;> omega) _))) | simp [go_sem, *])
    have zy0 := cell_lt y0
    have y1 : w0.cell? ⟨w.heap.size + 1, 1, none⟩ = some (.slice a2 l2.length c2) := by rw [hW0]; exact (by first | assumption | exact cell_new (by with_reducible first | rfl | (simp; done) | (simp; omega)) rfl | (repeat (first | assumption | exact cell_new (by with_reducible first | rfl | (simp; done) | (simp; omega)) rfl | refine cell_alloc ?_ _ | refine cell_drew ?_ | refine cell_drewN ?_ _ | refine cell_far ?_ (by simp) _ | (refine cell_far ?_ (by simp <;> omega) _))) | simp [go_sem, *])
    have hB : Below w.heap.size w w0 := by rw [hW0]; repeat (first | exact Below.refl _ _ | exact hB | refine Below.drew ?_ | refine below_drewN ?_ _ | refine bset ?_ (by simp <;> omega) _ | refine bal ?_ _)
    have hz : w.heap.size ≤ w0.heap.size := hB.size
    clear hW0
    refine wp_region_grow (w := w0) (by kernel_rfl) (by kernel_rfl) ?_
    have x0g : ∀ gs, (grow w0 gs).cell? ⟨w.heap.size, 0, none⟩ = some (.bool n1) := fun gs => bkeep gs.below x0
    have x1g : ∀ gs, (grow w0 gs).cell? ⟨w.heap.size, 1, none⟩ = some (.slice a1 l1.length c1) := fun gs => bkeep gs.below x1
    have y0g : ∀ gs, (grow w0 gs).cell? ⟨w.heap.size + 1, 0, none⟩ = some (.bool n2) := fun gs => bkeep gs.below y0
    have y1g : ∀ gs, (grow w0 gs).cell? ⟨w.heap.size + 1, 1, none⟩ = some (.slice a2 l2.length c2) := fun gs => bkeep gs.below y1
    repeat (go_big_quiet_step (first | (go_at_call 52; with_reducible refine grow_of (sc1 _)) | (go_at_call 52; with_reducible refine grow_of (sc2 _))))
    refine wpQuiet_nil ?_
    intro w1 hb1
    clear x0g
    clear x1g
    clear y0g
    clear y1g
    have x0 : w1.cell? ⟨w.heap.size, 0, none⟩ = some (.bool n1) := bkc hb1
    have zx0 := cell_lt x0
    have x1 : w1.cell? ⟨w.heap.size, 1, none⟩ = some (.slice a1 l1.length c1) := bkc hb1
    have y0 : w1.cell? ⟨w.heap.size + 1, 0, none⟩ = some (.bool n2) := bkc hb1
    have zy0 := cell_lt y0
    have y1 : w1.cell? ⟨w.heap.size + 1, 1, none⟩ = some (.slice a2 l2.length c2) := bkc hb1
    have hB : Below w.heap.size w w1 := bthen (by repeat (first | exact Below.refl _ _ | exact hB | refine Below.drew ?_ | refine below_drewN ?_ _ | refine bset ?_ (by simp <;> omega) _ | refine bal ?_ _)) hb1
    have hz : w.heap.size ≤ w1.heap.size := hB.size
    go_wp2
    go_ret
    exact ⟨by rw [HC.out]; rfl, hB⟩
  · have HC := Lib.hid (cmpI_sign_gt h)
    have t1 : (x.sign != y.sign) = true := by simp; omega
    have t2 : ¬ x.sign < y.sign := by omega
    generalize x.sign = X at *
    generalize y.sign = Y at *
    go_enter Tryz.func142, Tryz.ntmps142
    go_wp2
    refine wp_name fun w0 hW0 => ?_
    have x0 : w0.cell? ⟨w.heap.size, 0, none⟩ = some (.bool n1) := by rw [hW0]; exact (by first | assumption | exact cell_new (by with_reducible first | rfl | (simp; done) | (simp; omega)) rfl | (repeat (first | assumption | exact cell_new (by with_reducible first | rfl | (simp; done) | (simp; omega)) rfl | refine cell_alloc ?_ _ | refine cell_drew ?_ | refine cell_drewN ?_ _ | refine cell_far ?_ (by simp) _ | (refine cell_far ?_ (by simp <;> omega) _))) | simp [go_sem, *])
    have zx0 := cell_lt x0
    have x1 : w0.cell? ⟨w.heap.size, 1, none⟩ = some (.slice a1 l1.length c1) := by rw [hW0]; exact (by first | assumption | exact cell_new (by with_reducible first | rfl | (simp; done) | (simp; omega)) rfl | (repeat (first | assumption | exact cell_new (by with_reducible first | rfl | (simp; done) | (simp; omega)) rfl | refine cell_alloc ?_ _ | refine cell_drew ?_ | refine cell_drewN ?_ _ | refine cell_far ?_ (by simp) _ | (refine cell_far ?_ (by simp <;> omega) _))) | simp [go_sem, *])
    have y0 : w0.cell? ⟨w.heap.size + 1, 0, none⟩ = some (.bool n2) := by rw [hW0]; exact (by first | assumption | exact cell_new (by with_reducible first | rfl | (simp; done) | (simp; omega)) rfl | (repeat (first | assumption | exact cell_new (by with_reducible first | rfl | (simp; done) | (simp; omega)) rfl | refine cell_alloc ?_ _ | refine cell_drew ?_ | refine cell_drewN ?_ _ | refine cell_far ?_ (by simp) _ | (refine cell_far ?_ (by simp <;> omega) _))) | simp [go_sem, *])
    have zy0 := cell_lt y0
    have y1 : w0.cell? ⟨w.heap.size + 1, 1, none⟩ = some (.slice a2 l2.length c2) := by rw [hW0]; exact (by first | assumption | exact cell_new (by with_reducible first | rfl | (simp; done) | (simp; omega)) rfl | (repeat (first | assumption | exact cell_new (by with_reducible first | rfl | (simp; done) | (simp; omega)) rfl | refine cell_alloc ?_ _ | refine cell_drew ?_ | refine cell_drewN ?_ _ | refine cell_far ?_ (by simp) _ | (refine cell_far ?_ (by simp <;> omega) _))) | simp [go_sem, *])
    have hB : Below w.heap.size w w0 := by rw [hW0]; repeat (first | exact Below.refl _ _ | exact hB | refine Below.drew ?_ | refine below_drewN ?_ _ | refine bset ?_ (by simp <;> omega) _ | refine bal ?_ _)
    have hz : w.heap.size ≤ w0.heap.size := hB.size
    clear hW0
    refine wp_region_grow (w := w0) (by kernel_rfl) (by kernel_rfl) ?_
    have x0g : ∀ gs, (grow w0 gs).cell? ⟨w.heap.size, 0, none⟩ = some (.bool n1) := fun gs => bkeep gs.below x0
    have x1g : ∀ gs, (grow w0 gs).cell? ⟨w.heap.size, 1, none⟩ = some (.slice a1 l1.length c1) := fun gs => bkeep gs.below x1
    have y0g : ∀ gs, (grow w0 gs).cell? ⟨w.heap.size + 1, 0, none⟩ = some (.bool n2) := fun gs => bkeep gs.below y0
    have y1g : ∀ gs, (grow w0 gs).cell? ⟨w.heap.size + 1, 1, none⟩ = some (.slice a2 l2.length c2) := fun gs => bkeep gs.below y1
    repeat (go_big_quiet_step (first | (go_at_call 52; with_reducible refine grow_of (sc1 _)) | (go_at_call 52; with_reducible refine grow_of (sc2 _))))
    refine wpQuiet_nil ?_
    intro w1 hb1
    clear x0g
    clear x1g
    clear y0g
    clear y1g
    have x0 : w1.cell? ⟨w.heap.size, 0, none⟩ = some (.bool n1) := bkc hb1
    have zx0 := cell_lt x0
    have x1 : w1.cell? ⟨w.heap.size, 1, none⟩ = some (.slice a1 l1.length c1) := bkc hb1
    have y0 : w1.cell? ⟨w.heap.size + 1, 0, none⟩ = some (.bool n2) := bkc hb1
    have zy0 := cell_lt y0
    have y1 : w1.cell? ⟨w.heap.size + 1, 1, none⟩ = some (.slice a2 l2.length c2) := bkc hb1
    have hB : Below w.heap.size w w1 := bthen (by repeat (first | exact Below.refl _ _ | exact hB | refine Below.drew ?_ | refine below_drewN ?_ _ | refine bset ?_ (by simp <;> omega) _ | refine bal ?_ _)) hb1
    have hz : w.heap.size ≤ w1.heap.size := hB.size
    go_wp2
    go_ret
    exact ⟨by rw [HC.out]; rfl, hB⟩
  · have zc1 := fun w hx hy => rsize_c a1 a2 c1 c2 l1 l2 w hx hy q1 q2 g1 g2
    have zc2 := fun w hx hy => rsize_c a2 a1 c2 c1 l2 l1 w hx hy q2 q1 g2 g1
    have t1 : (x.sign != y.sign) = false := by simp [h]
    rw [← h] at sc2 t1
    by_cases hn : x.sign < 0
    · have HC := Lib.hid (show cmpN (NumR.val l2) (NumR.val l1) = cmpI x y by
        have k1 : n1 = true := sgV_neg (by rw [HE1.out]; omega)
        have k2 : n2 = true := sgV_neg (by rw [HE2.out]; omega)
        rw [HX.out, HY.out, k1, k2, cmpI_nn])
      clear h hbx
      generalize x.sign = X at *
      generalize cmpN (NumR.val l2) (NumR.val l1) = z at *
      clear zc1
      go_enter Tryz.func142, Tryz.ntmps142
      go_wp2
      refine wp_name fun w0 hW0 => ?_
      have x0 : w0.cell? ⟨w.heap.size, 0, none⟩ = some (.bool n1) := by rw [hW0]; exact (by first | assumption | exact cell_new (by with_reducible first | rfl | (simp; done) | (simp; omega)) rfl | (repeat (first | assumption | exact cell_new (by with_reducible first | rfl | (simp; done) | (simp; omega)) rfl | refine cell_alloc ?_ _ | refine cell_drew ?_ | refine cell_drewN ?_ _ | refine cell_far ?_ (by simp) _ | (refine cell_far ?_ (by simp <;> omega) _))) | simp [go_sem, *])
      have zx0 := cell_lt x0
      have x1 : w0.cell? ⟨w.heap.size, 1, none⟩ = some (.slice a1 l1.length c1) := by rw [hW0]; exact (by first | assumption | exact cell_new (by with_reducible first | rfl | (simp; done) | (simp; omega)) rfl | (repeat (first | assumption | exact cell_new (by with_reducible first | rfl | (simp; done) | (simp; omega)) rfl | refine cell_alloc ?_ _ | refine cell_drew ?_ | refine cell_drewN ?_ _ | refine cell_far ?_ (by simp) _ | (refine cell_far ?_ (by simp <;> omega) _))) | simp [go_sem, *])
      have y0 : w0.cell? ⟨w.heap.size + 1, 0, none⟩ = some (.bool n2) := by rw [hW0]; exact (by first | assumption | exact cell_new (by with_reducible first | rfl | (simp; done) | (simp; omega)) rfl | (repeat (first | assumption | exact cell_new (by with_reducible first | rfl | (simp; done) | (simp; omega)) rfl | refine cell_alloc ?_ _ | refine cell_drew ?_ | refine cell_drewN ?_ _ | refine cell_far ?_ (by simp) _ | (refine cell_far ?_ (by simp <;> omega) _))) | simp [go_sem, *])
      have zy0 := cell_lt y0
      have y1 : w0.cell? ⟨w.heap.size + 1, 1, none⟩ = some (.slice a2 l2.length c2) := by rw [hW0]; exact (by first | assumption | exact cell_new (by with_reducible first | rfl | (simp; done) | (simp; omega)) rfl | (repeat (first | assumption | exact cell_new (by with_reducible first | rfl | (simp; done) | (simp; omega)) rfl | refine cell_alloc ?_ _ | refine cell_drew ?_ | refine cell_drewN ?_ _ | refine cell_far ?_ (by simp) _ | (refine cell_far ?_ (by simp <;> omega) _))) | simp [go_sem, *])
      have hB : Below w.heap.size w w0 := by rw [hW0]; repeat (first | exact Below.refl _ _ | exact hB | refine Below.drew ?_ | refine below_drewN ?_ _ | refine bset ?_ (by simp <;> omega) _ | refine bal ?_ _)
      have hz : w.heap.size ≤ w0.heap.size := hB.size
      clear hW0
      refine wp_region_grow (w := w0) (by kernel_rfl) (by kernel_rfl) ?_
      have x0g : ∀ gs, (grow w0 gs).cell? ⟨w.heap.size, 0, none⟩ = some (.bool n1) := fun gs => bkeep gs.below x0
      have x1g : ∀ gs, (grow w0 gs).cell? ⟨w.heap.size, 1, none⟩ = some (.slice a1 l1.length c1) := fun gs => bkeep gs.below x1
      have y0g : ∀ gs, (grow w0 gs).cell? ⟨w.heap.size + 1, 0, none⟩ = some (.bool n2) := fun gs => bkeep gs.below y0
      have y1g : ∀ gs, (grow w0 gs).cell? ⟨w.heap.size + 1, 1, none⟩ = some (.slice a2 l2.length c2) := fun gs => bkeep gs.below y1
      repeat (go_big_quiet_step (first | (go_at_call 52; with_reducible refine grow_of (sc1 _)) | (go_at_call 52; with_reducible refine grow_of (sc2 _))))
      refine wpQuiet_nil ?_
      intro w1 hb1
      clear x0g
      clear x1g
      clear y0g
      clear y1g
      have x0 : w1.cell? ⟨w.heap.size, 0, none⟩ = some (.bool n1) := bkc hb1
      have zx0 := cell_lt x0
      have x1 : w1.cell? ⟨w.heap.size, 1, none⟩ = some (.slice a1 l1.length c1) := bkc hb1
      have y0 : w1.cell? ⟨w.heap.size + 1, 0, none⟩ = some (.bool n2) := bkc hb1
      have zy0 := cell_lt y0
      have y1 : w1.cell? ⟨w.heap.size + 1, 1, none⟩ = some (.slice a2 l2.length c2) := bkc hb1
      have hB : Below w.heap.size w w1 := bthen (by repeat (first | exact Below.refl _ _ | exact hB | refine Below.drew ?_ | refine below_drewN ?_ _ | refine bset ?_ (by simp <;> omega) _ | refine bal ?_ _)) hb1
      have hz : w.heap.size ≤ w1.heap.size := hB.size
      go_wp2_with fail
      refine (zc2 _ (u2.keep hB) (u1.keep hB)).mono ?_
      rintro e w2 ⟨rfl, hb2⟩
      go_wp2
      go_ret
      exact ⟨by rw [HC.out]; rfl, bthen hB hb2⟩
    · have HC := Lib.hid (show cmpN (NumR.val l1) (NumR.val l2) = cmpI x y by
        have k1 : x = sg false (NumR.val l1) := by
          have h1 := HX.out
          cases n1 with
          | false => exact h1
          | true =>
            by_cases h0 : l1 = []
            · rw [h1, h0]; rfl
            · exfalso; have := HE1.out; unfold sgV at this; rw [if_neg (by simpa using h0)] at this; simp at this; omega
        have k2 : y = sg false (NumR.val l2) := by
          have h1 := HY.out
          cases n2 with
          | false => exact h1
          | true =>
            by_cases h0 : l2 = []
            · rw [h1, h0]; rfl
            · exfalso; have := HE2.out; unfold sgV at this; rw [if_neg (by simpa using h0)] at this; simp at this; omega
        rw [k1, k2, cmpI_pp])
      clear h hbx
      generalize x.sign = X at *
      generalize cmpN (NumR.val l1) (NumR.val l2) = z at *
      clear zc2
      go_enter Tryz.func142, Tryz.ntmps142
      go_wp2
      refine wp_name fun w0 hW0 => ?_
      have x0 : w0.cell? ⟨w.heap.size, 0, none⟩ = some (.bool n1) := by rw [hW0]; exact (by first | assumption | exact cell_new (by with_reducible first | rfl | (simp; done) | (simp; omega)) rfl | (repeat (first | assumption | exact cell_new (by with_reducible first | rfl | (simp; done) | (simp; omega)) rfl | refine cell_alloc ?_ _ | refine cell_drew ?_ | refine cell_drewN ?_ _ | refine cell_far ?_ (by simp) _ | (refine cell_far ?_ (by simp <;> omega) _))) | simp [go_sem, *])
      have zx0 := cell_lt x0
      have x1 : w0.cell? ⟨w.heap.size, 1, none⟩ = some (.slice a1 l1.length c1) := by rw [hW0]; exact (by first | assumption | exact cell_new (by with_reducible first | rfl | (simp; done) | (simp; omega)) rfl | (repeat (first | assumption | exact cell_new (by with_reducible first | rfl | (simp; done) | (simp; omega)) rfl | refine cell_alloc ?_ _ | refine cell_drew ?_ | refine cell_drewN ?_ _ | refine cell_far ?_ (by simp) _ | (refine cell_far ?_ (by simp <;> omega) _))) | simp [go_sem, *])
      have y0 : w0.cell? ⟨w.heap.size + 1, 0, none⟩ = some (.bool n2) := by rw [hW0]; exact (by first | assumption | exact cell_new (by with_reducible first | rfl | (simp; done) | (simp; omega)) rfl | (repeat (first | assumption | exact cell_new (by with_reducible first | rfl | (simp; done) | (simp; omega)) rfl | refine cell_alloc ?_ _ | refine cell_drew ?_ | refine cell_drewN ?_ _ | refine cell_far ?_ (by simp) _ | (refine cell_far ?_ (by simp <;> omega) _))) | simp [go_sem, *])
      have zy0 := cell_lt y0
      have y1 : w0.cell? ⟨w.heap.size + 1, 1, none⟩ = some (.slice a2 l2.length c2) := by rw [hW0]; exact (by first | assumption | exact cell_new (by with_reducible first | rfl | (simp; done) | (simp; omega)) rfl | (repeat (first | assumption | exact cell_new (by with_reducible first | rfl | (simp; done) | (simp; omega)) rfl | refine cell_alloc ?_ _ | refine cell_drew ?_ | refine cell_drewN ?_ _ | refine cell_far ?_ (by simp) _ | (refine cell_far ?_ (by simp <;> omega) _))) | simp [go_sem, *])
      have hB : Below w.heap.size w w0 := by rw [hW0]; repeat (first | exact Below.refl _ _ | exact hB | refine Below.drew ?_ | refine below_drewN ?_ _ | refine bset ?_ (by simp <;> omega) _ | refine bal ?_ _)
      have hz : w.heap.size ≤ w0.heap.size := hB.size
      clear hW0
      refine wp_region_grow (w := w0) (by kernel_rfl) (by kernel_rfl) ?_
      have x0g : ∀ gs, (grow w0 gs).cell? ⟨w.heap.size, 0, none⟩ = some (.bool n1) := fun gs => bkeep gs.below x0
      have x1g : ∀ gs, (grow w0 gs).cell? ⟨w.heap.size, 1, none⟩ = some (.slice a1 l1.length c1) := fun gs => bkeep gs.below x1
      have y0g : ∀ gs, (grow w0 gs).cell? ⟨w.heap.size + 1, 0, none⟩ = some (.bool n2) := fun gs => bkeep gs.below y0
      have y1g : ∀ gs, (grow w0 gs).cell? ⟨w.heap.size + 1, 1, none⟩ = some (.slice a2 l2.length c2) := fun gs => bkeep gs.below y1
      repeat (go_big_quiet_step (first | (go_at_call 52; with_reducible refine grow_of (sc1 _)) | (go_at_call 52; with_reducible refine grow_of (sc2 _))))
      refine wpQuiet_nil ?_
      intro w1 hb1
      clear x0g
      clear x1g
      clear y0g
      clear y1g
      have x0 : w1.cell? ⟨w.heap.size, 0, none⟩ = some (.bool n1) := bkc hb1
      have zx0 := cell_lt x0
      have x1 : w1.cell? ⟨w.heap.size, 1, none⟩ = some (.slice a1 l1.length c1) := bkc hb1
      have y0 : w1.cell? ⟨w.heap.size + 1, 0, none⟩ = some (.bool n2) := bkc hb1
      have zy0 := cell_lt y0
      have y1 : w1.cell? ⟨w.heap.size + 1, 1, none⟩ = some (.slice a2 l2.length c2) := bkc hb1
      have hB : Below w.heap.size w w1 := bthen (by repeat (first | exact Below.refl _ _ | exact hB | refine Below.drew ?_ | refine below_drewN ?_ _ | refine bset ?_ (by simp <;> omega) _ | refine bal ?_ _)) hb1
      have hz : w.heap.size ≤ w1.heap.size := hB.size
      go_wp2_with fail
      refine (zc1 _ (u1.keep hB) (u2.keep hB)).mono ?_
      rintro e w2 ⟨rfl, hb2⟩
      go_wp2
      go_ret
      exact ⟨by rw [HC.out]; rfl, bthen hB hb2⟩

namespace Num
theorem cmpI_zero {x y : Int} : (cmpI x y == 0) = decide (x = y) := by
  unfold cmpI
  (repeat' split) <;> simp <;> omega
end Num
end Go.Proofs.YthaohpfbengabaaGreatDoor

/- What a piece of code may have written: 'Out X w w'': of w's blocks those outside X are as they were. -/
namespace Go.Proofs.YthaohpfbengabaaGreatDoor
open Num
open Go.ChangeShapes Go.WideShapes Go.ChangeAt Go.RowKit
structure Out (X : Nat → Prop) (w w' : World) : Prop where
  os : w'.os = w.os
  tape : w'.tape = w.tape
  output : w'.output = w.output
  size : w.heap.size ≤ w'.heap.size
  block : ∀ k, k < w.heap.size → ¬ X k → w'.heap[k]? = w.heap[k]?
section
variable {X Y : Nat → Prop} {a b c w w' : World}
theorem Out.refl (X : Nat → Prop) (w : World) : Out X w w := ⟨rfl, rfl, rfl, Nat.le_refl _, fun _ _ _ => rfl⟩
theorem Out.trans (h : Out X a b) (k : Out X b c) : Out X a c :=
  ⟨k.os.trans h.os, k.tape.trans h.tape, k.output.trans h.output, Nat.le_trans h.size k.size, fun i hi hx => (k.block i (Nat.lt_of_lt_of_le hi h.size) hx).trans (h.block i hi hx)⟩
theorem Out.mono (h : Out X a b) (k : ∀ i, i < a.heap.size → X i → Y i) : Out Y a b := ⟨h.os, h.tape, h.output, h.size, fun i hi hx => h.block i hi fun hi' => hx (k i hi hi')⟩
/-- what comes behind may write, besides, what is new -/
theorem Out.then (h : Out X a b) (k : Out Y b c) (hy : ∀ i, i < a.heap.size → Y i → X i) : Out X a c :=
  ⟨k.os.trans h.os, k.tape.trans h.tape, k.output.trans h.output, Nat.le_trans h.size k.size, fun i hi hx => (k.block i (Nat.lt_of_lt_of_le hi h.size) fun h' => hx (hy i hi h')).trans (h.block i hi hx)⟩
theorem Out.of_below (X : Nat → Prop) (h : Below a.heap.size a b) : Out X a b := ⟨h.os, h.tape, h.output, h.size, fun i hi _ => h.block i hi⟩
theorem Out.below (h : Out X a b) (k : Below b.heap.size b c) : Out X a c := h.trans (.of_below X k)
theorem Out.alloc (h : Out X a b) (o : Obj) : Out X a (b.alloc o) := h.below (bal (Below.refl _ _) o)
theorem Out.drew (h : Out X a b) : Out X a b.drew := ⟨h.os, h.tape, h.output, h.size, h.block⟩
theorem Out.drewN (h : Out X a b) (n : Nat) : Out X a (b.drewN n) := h.below (below_drewN (Below.refl _ _) n)
theorem Out.set (h : Out X a b) {p : Addr} (hp : p.block < a.heap.size → X p.block) (u : Value) : Out X a (b.setCell p u) :=
  ⟨h.os, h.tape, h.output, Nat.le_trans h.size (by simp [World.setCell]), fun k hk hx => (Below.heap_setCell _ _ _ _ fun e => hx (by subst e; exact hp hk)).trans (h.block k hk hx)⟩
theorem Out.grown (h : Out X a b) {row : Option Nat} (hg : b.grownBy c row) (hr : ∀ k, row = some k → k < a.heap.size → X k) : Out X a c :=
  ⟨hg.os.trans h.os, hg.tape.trans h.tape, hg.output.trans h.output, Nat.le_trans h.size hg.size, fun k hk hx => (hg.block k (Nat.lt_of_lt_of_le hk h.size) fun e => hx (hr k e.symm hk)).trans (h.block k hk hx)⟩
/-- nothing that was there when a call began -/
theorem Out.to_below {B : Nat} (h : Out X a b) (hx : ∀ k, k < B → k < a.heap.size → ¬ X k) (hB : B ≤ a.heap.size) : Below B a b :=
  ⟨h.os, h.tape, h.output, h.size, fun k hk => h.block k (by omega) (hx k hk (by omega))⟩
theorem okeep (h : Out X a b) {q o : Nat} {s : Option Nat} {v : Value} (hc : a.cell? ⟨q, o, s⟩ = some v) (hx : ¬ X q) : b.cell? ⟨q, o, s⟩ = some v := by
  rw [World.cell?_of_block (w := a) (h.block q (cell_lt hc) hx)]; exact hc
theorem okeepf (h : Out X a b) {q o : Nat} {s : Option Nat} {v : Value} (hc : a.cell? ⟨q, o, s⟩ = some v) (hf : a.frozen? ⟨q, o, s⟩ = false) (hx : ¬ X q) : b.frozen? ⟨q, o, s⟩ = false := by
  rw [World.frozen?_of_block (w := a) (h.block q (cell_lt hc) hx)]; exact hf
theorem Out.blk (h : Out X a b) {g : Nat} {l : List Nat} (hb : Blk a g l) (hx : ¬ X g) : Blk b g l := (h.block g hb.lt hx).trans hb
/-- limbs stay where their block is not written -/
theorem C32.okeep {o : Option Addr} {l : List Nat} (h : C32 a o l) (k : Out X a b) (hx : ∀ q f, o = some ⟨q, f, none⟩ → ¬ X q) : C32 b o l := by
  rcases h with h | ⟨q, off, h1, h2⟩
  · exact .inl h
  · exact .inr ⟨q, off, h1, fun i hi => _root_.Go.Proofs.YthaohpfbengabaaGreatDoor.okeep k (h2 i hi) (hx q off h1), by rw [typ_of_block (w := a) (k.block q (typ_lt h2.ty) (hx q off h1))]; exact h2.ty⟩
theorem U32.okeep {o : Option Addr} {cap : Nat} {l : List Nat} (h : U32 a o cap l) (k : Out X a b) (hx : ∀ q f, o = some ⟨q, f, none⟩ → ¬ X q) : U32 b o cap l := ⟨h.1, h.2.1, h.2.2.1, h.2.2.2.okeep k hx⟩
end
end Go.Proofs.YthaohpfbengabaaGreatDoor

/- The reference's numbers: Mul. -/
namespace Go.Proofs.YthaohpfbengabaaGreatDoor
open Num
open Go.ChangeShapes Go.WideShapes Go.ChangeAt Go.RowKit
set_option linter.unusedVariables false
set_option linter.unusedSimpArgs false
namespace NumR
theorem carry_end {l m : List Nat} {i j c x V : Nat} (hl : Limbs l) (hm : Limbs m) (hi : i ≤ l.length) (hx : x < BB) (hc : 0 < c) (hj : m.length ≤ j)
    (h : V + c * BB ^ (i + j) = val (l.take i) * val m + x * val (m.take j) * BB ^ i) : j = m.length := by
  rw [List.take_of_length_le hj] at h
  have h1 := val_lt (limbs_take hl i)
  rw [List.length_take, Nat.min_eq_left hi] at h1
  have h2 := val_lt hm
  have h3 : val (l.take i) * val m + x * val m * BB ^ i < BB ^ (i + m.length + 1) := by
    have e : BB ^ (i + m.length + 1) = BB ^ i * (BB * BB ^ m.length) := by rw [Nat.pow_succ, Nat.pow_add]; ac_rfl
    rw [e]
    have k1 : val (l.take i) * val m ≤ BB ^ i * val m := Nat.mul_le_mul_right _ (by omega)
    have k2 : x * val m * BB ^ i = BB ^ i * (x * val m) := by ac_rfl
    rw [k2]
    have k3 : BB ^ i * val m + BB ^ i * (x * val m) = BB ^ i * ((x + 1) * val m) := by rw [← Nat.mul_add, Nat.add_mul]; congr 1; omega
    have k4 : (x + 1) * val m ≤ BB * val m := Nat.mul_le_mul_right _ (by omega)
    have k5 : BB * val m < BB * BB ^ m.length := Nat.mul_lt_mul_of_pos_left h2 BB_pos
    have k6 : BB ^ i * ((x + 1) * val m) < BB ^ i * (BB * BB ^ m.length) := Nat.mul_lt_mul_of_pos_left (by omega) (Nat.pow_pos BB_pos)
    omega
  have h4 : BB ^ (i + j) ≤ c * BB ^ (i + j) := Nat.le_mul_of_pos_left _ hc
  have h5 : BB ^ (i + j) < BB ^ (i + m.length + 1) := by omega
  have h6 := (Nat.pow_lt_pow_iff_right (a := BB) (by unfold BB; omega)).1 h5
  omega
/-- one place of the inner loop -/
theorem mul_step {Q : List Nat} {m : List Nat} {i k x c t V : Nat} (hq : i + k < Q.length) (ht : t = c + Q.getD (i + k) 0 + x * m.getD k 0) (hk : k < m.length)
    (h : val Q + c * BB ^ (i + k) = V + x * val (m.take k) * BB ^ i) :
    val (Q.set (i + k) (t % BB)) + t / BB * BB ^ (i + (k + 1)) = V + x * val (m.take (k + 1)) * BB ^ i := by
  have a1 := val_set (l := Q) (k := i + k) (t % BB) hq
  have a3 := Nat.div_add_mod t BB
  rw [val_take_succ hk]
  have p1 : BB ^ (i + (k + 1)) = BB * BB ^ (i + k) := by rw [← Nat.add_assoc, Nat.pow_succ, Nat.mul_comm]
  have p2 : BB ^ (i + k) = BB ^ i * BB ^ k := Nat.pow_add _ _ _
  rw [p1]
  have a6 : t * BB ^ (i + k) = BB * (t / BB) * BB ^ (i + k) + t % BB * BB ^ (i + k) := by rw [← Nat.add_mul, a3]
  have a7 : t * BB ^ (i + k) = c * BB ^ (i + k) + Q.getD (i + k) 0 * BB ^ (i + k) + x * m.getD k 0 * BB ^ (i + k) := by rw [ht]; simp only [Nat.add_mul]
  have a8 : x * (val (List.take k m) + m.getD k 0 * BB ^ k) * BB ^ i = x * val (List.take k m) * BB ^ i + x * m.getD k 0 * BB ^ (i + k) := by
    rw [p2, Nat.mul_add, Nat.add_mul]; congr 1; ac_rfl
  have a9 : t / BB * (BB * BB ^ (i + k)) = BB * (t / BB) * BB ^ (i + k) := by ac_rfl
  rw [a8, a9]
  omega
theorem mul_last {Q : List Nat} {m : List Nat} {i x c t V : Nat} (hq : i + m.length < Q.length) (ht : t = c + Q.getD (i + m.length) 0)
    (h : val Q + c * BB ^ (i + m.length) = V + x * val (m.take m.length) * BB ^ i) :
    val (Q.set (i + m.length) (t % BB)) + t / BB * BB ^ (i + (m.length + 1)) = V + x * val (m.take (m.length + 1)) * BB ^ i := by
  have a1 := val_set (l := Q) (k := i + m.length) (t % BB) hq
  have a3 := Nat.div_add_mod t BB
  rw [List.take_of_length_le (by omega)] at h ⊢
  have p1 : BB ^ (i + (m.length + 1)) = BB * BB ^ (i + m.length) := by rw [← Nat.add_assoc, Nat.pow_succ, Nat.mul_comm]
  rw [p1]
  have a6 : t * BB ^ (i + m.length) = BB * (t / BB) * BB ^ (i + m.length) + t % BB * BB ^ (i + m.length) := by rw [← Nat.add_mul, a3]
  have a7 : t * BB ^ (i + m.length) = c * BB ^ (i + m.length) + Q.getD (i + m.length) 0 * BB ^ (i + m.length) := by rw [ht]; simp only [Nat.add_mul]
  have a9 : t / BB * (BB * BB ^ (i + m.length)) = BB * (t / BB) * BB ^ (i + m.length) := by ac_rfl
  rw [a9]
  omega
theorem mul_done {l m Q : List Nat} {i k x : Nat} (hi : i < l.length) (hk : m.length ≤ k) (hx : x = l.getD i 0)
    (h : val Q + 0 * BB ^ (i + k) = val (l.take i) * val m + x * val (m.take k) * BB ^ i) : val Q = val (l.take (i + 1)) * val m := by
  rw [val_take_succ hi, List.take_of_length_le hk] at *
  rw [← hx, Nat.add_mul]
  have : x * BB ^ i * val m = x * val m * BB ^ i := by ac_rfl
  omega
theorem step_lt {x y o c : Nat} (hx : x < BB) (hy : y < BB) (ho : o < BB) (hc : c < BB) : c + o + x * y < BB * BB := by
  have h1 : x * y ≤ (BB - 1) * (BB - 1) := Nat.mul_le_mul (by omega) (by omega)
  have h2 : (BB - 1) * (BB - 1) + (BB - 1) + (BB - 1) + 1 = BB * BB := by unfold BB; rfl
  omega
theorem w64' {x : Nat} (h : x < BB * BB) : IntKind.u64.wrap (x : Int) = (x : Int) := w64 (by unfold BB at h; unfold Num.BB; omega)
end NumR
theorem rsg_bd {neg : Bool} {n k : Nat} (h : Bd k (sg neg n)) : n < 2 ^ k := by
  unfold Bd at h; rwa [sg_abs] at h
theorem rbd_len {l : List Nat} {k : Nat} (hn : Nrm l) (h : NumR.val l < 2 ^ k) (hk : k ≤ 17179869184) : l.length ≤ 1073741825 := by
  by_cases h0 : l = []
  · subst h0; simp
  · have h1 := NumR.nrm_val_pos hn h0
    have e : NumR.BB ^ (l.length - 1) = 2 ^ (16 * (l.length - 1)) := by rw [Nat.pow_mul]; rfl
    rw [e] at h1
    have h2 : 16 * (l.length - 1) < k := (Nat.pow_lt_pow_iff_right (a := 2) (by omega)).1 (Nat.lt_of_le_of_lt h1 h)
    omega

set_option maxRecDepth 100000 in
set_option maxHeartbeats 4000000 in
theorem rmulV_c (n1 n2 : Bool) (a b : Option Addr) (ca cb : Nat) (l m : List Nat) (w : World) (ha : U32 w a ca l) (hb : U32 w b cb m) (hl : NumR.Limbs l) (hm : NumR.Limbs m) (h1 : l.length ≤ 1073741825) (h2 : m.length ≤ 1073741825) :
    Calls Tryz.prog 128 #[.agg #[.bool n1, .slice a l.length ca], .agg #[.bool n2, .slice b m.length cb]] w fun e w' => (∃ v, e = .returned v ∧ IsRef w' v (sg n1 (NumR.val l) * sg n2 (NumR.val m))) ∧ Below w.heap.size w w' := by
  have hmk := mk32 (l.length + m.length + 1) (by omega)
  have ec : ((l.length + m.length + 1 : Nat) : Int) = (l.length : Int) + (m.length : Int) + 1 := by omega
  rw [ec] at hmk
  clear ec
  have hB := Below.refl w.heap.size w
  go_enter Tryz.func128, Tryz.ntmps128
  go_wp2
  clear hmk
  refine wp_name fun w0 hW0 => ?_
  have x0 : w0.cell? ⟨w.heap.size, 0, none⟩ = some (.bool n1) := by rw [hW0]; exact (by first | assumption | exact cell_new (by with_reducible first | rfl | (simp; done) | (simp; omega)) rfl | (repeat (first | assumption | exact cell_new (by with_reducible first | rfl | (simp; done) | (simp; omega)) rfl | refine cell_alloc ?_ _ | refine cell_drew ?_ | refine cell_drewN ?_ _ | refine cell_far ?_ (by simp) _ | (refine cell_far ?_ (by simp <;> omega) _))) | simp [go_sem, *])
  have zx0 := cell_lt x0
  have x1 : w0.cell? ⟨w.heap.size, 1, none⟩ = some (.slice a l.length ca) := by rw [hW0]; exact (by first | assumption | exact cell_new (by with_reducible first | rfl | (simp; done) | (simp; omega)) rfl | (repeat (first | assumption | exact cell_new (by with_reducible first | rfl | (simp; done) | (simp; omega)) rfl | refine cell_alloc ?_ _ | refine cell_drew ?_ | refine cell_drewN ?_ _ | refine cell_far ?_ (by simp) _ | (refine cell_far ?_ (by simp <;> omega) _))) | simp [go_sem, *])
  have y0 : w0.cell? ⟨w.heap.size + 1, 0, none⟩ = some (.bool n2) := by rw [hW0]; exact (by first | assumption | exact cell_new (by with_reducible first | rfl | (simp; done) | (simp; omega)) rfl | (repeat (first | assumption | exact cell_new (by with_reducible first | rfl | (simp; done) | (simp; omega)) rfl | refine cell_alloc ?_ _ | refine cell_drew ?_ | refine cell_drewN ?_ _ | refine cell_far ?_ (by simp) _ | (refine cell_far ?_ (by simp <;> omega) _))) | simp [go_sem, *])
  have zy0 := cell_lt y0
  have y1 : w0.cell? ⟨w.heap.size + 1, 1, none⟩ = some (.slice b m.length cb) := by rw [hW0]; exact (by first | assumption | exact cell_new (by with_reducible first | rfl | (simp; done) | (simp; omega)) rfl | (repeat (first | assumption | exact cell_new (by with_reducible first | rfl | (simp; done) | (simp; omega)) rfl | refine cell_alloc ?_ _ | refine cell_drew ?_ | refine cell_drewN ?_ _ | refine cell_far ?_ (by simp) _ | (refine cell_far ?_ (by simp <;> omega) _))) | simp [go_sem, *])
  have r0f : w0.frozen? ⟨w.heap.size + 2, 0, none⟩ = false := by rw [hW0]; simp [go_sem, *]
  have r0 : w0.cell? ⟨w.heap.size + 2, 0, none⟩ = some (.bool false) := by rw [hW0]; exact (by first | assumption | exact cell_new (by with_reducible first | rfl | (simp; done) | (simp; omega)) rfl | (repeat (first | assumption | exact cell_new (by with_reducible first | rfl | (simp; done) | (simp; omega)) rfl | refine cell_alloc ?_ _ | refine cell_drew ?_ | refine cell_drewN ?_ _ | refine cell_far ?_ (by simp) _ | (refine cell_far ?_ (by simp <;> omega) _))) | simp [go_sem, *])
  have zr0 := cell_lt r0
  have r1f : w0.frozen? ⟨w.heap.size + 2, 1, none⟩ = false := by rw [hW0]; simp [go_sem, *]
  have r1 : w0.cell? ⟨w.heap.size + 2, 1, none⟩ = some (.slice none 0 0) := by rw [hW0]; exact (by first | assumption | exact cell_new (by with_reducible first | rfl | (simp; done) | (simp; omega)) rfl | (repeat (first | assumption | exact cell_new (by with_reducible first | rfl | (simp; done) | (simp; omega)) rfl | refine cell_alloc ?_ _ | refine cell_drew ?_ | refine cell_drewN ?_ _ | refine cell_far ?_ (by simp) _ | (refine cell_far ?_ (by simp <;> omega) _))) | simp [go_sem, *])
  have hB : Below w.heap.size w w0 := by rw [hW0]; repeat (first | exact Below.refl _ _ | exact hB | refine Below.drew ?_ | refine below_drewN ?_ _ | refine bset ?_ (by simp <;> omega) _ | refine bal ?_ _)
  have hO0 : Blk w0 (w.heap.size + 3) (List.replicate (l.length + m.length + 1) 0) := by rw [hW0]; exact blk_at (by simp)
  have hs0 : w0.heap.size = w.heap.size + 4 := by rw [hW0]; simp
  have hz : w.heap.size ≤ w0.heap.size := hB.size
  clear hW0
  have HA := Lib.hid (ha.keep hB)
  have HB := Lib.hid (hb.keep hB)
  have HS0 := Lib.hid hs0
  have hag : ∀ q f, a = some ⟨q, f, none⟩ → l ≠ [] → q < w.heap.size := fun q f e hn => by
    rcases ha.2.2.2 with h | ⟨q', f', h', hc⟩
    · exact absurd h hn
    · rw [h'] at e; cases e; exact cell_lt (hc 0 (List.length_pos_iff.2 hn))
  have hbg : ∀ q f, b = some ⟨q, f, none⟩ → m ≠ [] → q < w.heap.size := fun q f e hn => by
    rcases hb.2.2.2 with h | ⟨q', f', h', hc⟩
    · exact absurd h hn
    · rw [h'] at e; cases e; exact cell_lt (hc 0 (List.length_pos_iff.2 hn))
  have HAG := Lib.hid hag
  have HBG := Lib.hid hbg
  clear ha hb hs0 hag hbg
  have HF := Lib.hid (And.intro x0 (And.intro x1 (And.intro y0 (And.intro y1 (And.intro r0 (And.intro r0f (And.intro r1 (r1f))))))))
  clear x0 x1 y0 y1 r0 r0f r1 r1f
  go_loopw [6] (fun x wr => ∃ (i : Nat) (O : List Nat), i ≤ l.length ∧ x = .int .i64 i ∧ Blk wr (w.heap.size + 3) O ∧ Hid (O.length = l.length + m.length + 1) ∧ NumR.Limbs O ∧ Hid (NumR.val O = NumR.val (l.take i) * NumR.val m) ∧ Out (· = w.heap.size + 3) w0 wr) (fun x _ => l.length - (intOf x).toNat)
  case atStart => exact ⟨0, _, by omega, rfl, hO0, Lib.hid (by simp), (fun y hy => by simp at hy; rw [hy]; exact NumR.BB_pos), Lib.hid (by simp [NumR.val, NumR.val_zeros]), Out.refl _ _⟩
  case round =>
    obtain ⟨i, O, hi, rfl, hO, hOl, hOL, hV, hOut⟩ := hrel
    obtain ⟨x0, x1, y0, y1, r0, r0f, r1, r1f⟩ := HF.out
    replace x0 := okeep hOut x0 (fun h => by first | (have h2 : _ = _ := h; omega) | (rcases (show _ ∨ _ from h) with h | h <;> omega) | (rcases (show _ ∨ _ ∨ _ from h) with h | h | h <;> omega))
    replace x1 := okeep hOut x1 (fun h => by first | (have h2 : _ = _ := h; omega) | (rcases (show _ ∨ _ from h) with h | h <;> omega) | (rcases (show _ ∨ _ ∨ _ from h) with h | h | h <;> omega))
    replace y0 := okeep hOut y0 (fun h => by first | (have h2 : _ = _ := h; omega) | (rcases (show _ ∨ _ from h) with h | h <;> omega) | (rcases (show _ ∨ _ ∨ _ from h) with h | h | h <;> omega))
    replace y1 := okeep hOut y1 (fun h => by first | (have h2 : _ = _ := h; omega) | (rcases (show _ ∨ _ from h) with h | h <;> omega) | (rcases (show _ ∨ _ ∨ _ from h) with h | h | h <;> omega))
    replace r0f := okeepf hOut r0 r0f (fun h => by first | (have h2 : _ = _ := h; omega) | (rcases (show _ ∨ _ from h) with h | h <;> omega) | (rcases (show _ ∨ _ ∨ _ from h) with h | h | h <;> omega))
    replace r0 := okeep hOut r0 (fun h => by first | (have h2 : _ = _ := h; omega) | (rcases (show _ ∨ _ from h) with h | h <;> omega) | (rcases (show _ ∨ _ ∨ _ from h) with h | h | h <;> omega))
    replace r1f := okeepf hOut r1 r1f (fun h => by first | (have h2 : _ = _ := h; omega) | (rcases (show _ ∨ _ from h) with h | h <;> omega) | (rcases (show _ ∨ _ ∨ _ from h) with h | h | h <;> omega))
    replace r1 := okeep hOut r1 (fun h => by first | (have h2 : _ = _ := h; omega) | (rcases (show _ ∨ _ from h) with h | h <;> omega) | (rcases (show _ ∨ _ ∨ _ from h) with h | h | h <;> omega))
    by_cases hlt : i < l.length
    · have hln : l ≠ [] := by intro e; subst e; simp at hlt
      rcases HA.out.2.2.2 with hl0 | ⟨ba, oa, rfl, hca⟩
      · exact absurd hl0 hln
      have hba := HAG.out ba oa rfl hln
      have c0 := hca i hlt
      have hx := NumR.limb_get hl i
      obtain ⟨x, hxe⟩ : ∃ x, x = l.getD i 0 := ⟨_, rfl⟩
      rw [← hxe] at c0 hx
      have HX := Lib.hid hxe
      clear hxe
      go_wp2
      go_loopw [7, 8] (fun cv y wi => ∃ (k c : Nat) (Q : List Nat), k ≤ m.length + 1 ∧ y = .int .i64 k ∧ cv = .int .u64 c ∧ c < NumR.BB ∧ Blk wi (w.heap.size + 3) Q ∧ Hid (Q.length = l.length + m.length + 1) ∧ NumR.Limbs Q ∧ Hid (NumR.val Q + c * NumR.BB ^ (i + k) = NumR.val (l.take i) * NumR.val m + x * NumR.val (m.take k) * NumR.BB ^ i) ∧ Out (· = w.heap.size + 3) w0 wi) (fun _ y _ => m.length + 2 - (intOf y).toNat)
      case atStart => exact ⟨0, 0, O, by omega, rfl, rfl, NumR.BB_pos, hO, hOl, hOL, Lib.hid (by simp [NumR.val, hV.out]), hOut⟩
      case round =>
        rename World => wi
        obtain ⟨k, c, Q, hk, rfl, rfl, hcB, hQ, hQl, hQL, hQV, hOut⟩ := hrel
        clear x0 x1 y0 y1 r0 r0f r1 r1f
        obtain ⟨x0, x1, y0, y1, r0, r0f, r1, r1f⟩ := HF.out
        replace x0 := okeep hOut x0 (fun h => by first | (have h2 : _ = _ := h; omega) | (rcases (show _ ∨ _ from h) with h | h <;> omega) | (rcases (show _ ∨ _ ∨ _ from h) with h | h | h <;> omega))
        replace x1 := okeep hOut x1 (fun h => by first | (have h2 : _ = _ := h; omega) | (rcases (show _ ∨ _ from h) with h | h <;> omega) | (rcases (show _ ∨ _ ∨ _ from h) with h | h | h <;> omega))
        replace y0 := okeep hOut y0 (fun h => by first | (have h2 : _ = _ := h; omega) | (rcases (show _ ∨ _ from h) with h | h <;> omega) | (rcases (show _ ∨ _ ∨ _ from h) with h | h | h <;> omega))
        replace y1 := okeep hOut y1 (fun h => by first | (have h2 : _ = _ := h; omega) | (rcases (show _ ∨ _ from h) with h | h <;> omega) | (rcases (show _ ∨ _ ∨ _ from h) with h | h | h <;> omega))
        replace r0f := okeepf hOut r0 r0f (fun h => by first | (have h2 : _ = _ := h; omega) | (rcases (show _ ∨ _ from h) with h | h <;> omega) | (rcases (show _ ∨ _ ∨ _ from h) with h | h | h <;> omega))
        replace r0 := okeep hOut r0 (fun h => by first | (have h2 : _ = _ := h; omega) | (rcases (show _ ∨ _ from h) with h | h <;> omega) | (rcases (show _ ∨ _ ∨ _ from h) with h | h | h <;> omega))
        replace r1f := okeepf hOut r1 r1f (fun h => by first | (have h2 : _ = _ := h; omega) | (rcases (show _ ∨ _ from h) with h | h <;> omega) | (rcases (show _ ∨ _ ∨ _ from h) with h | h | h <;> omega))
        replace r1 := okeep hOut r1 (fun h => by first | (have h2 : _ = _ := h; omega) | (rcases (show _ ∨ _ from h) with h | h <;> omega) | (rcases (show _ ∨ _ ∨ _ from h) with h | h | h <;> omega))
        have c1 := okeep hOut c0 (fun h => absurd (show _ = _ from h) (by omega))
        have HQS := Lib.hid (fun t => NumR.mul_step (Q := Q) (m := m) (i := i) (k := k) (x := x) (c := c) (t := t) (V := NumR.val (l.take i) * NumR.val m))
        have hql := hQl.out
        by_cases hkm : k < m.length
        · have hmn : m ≠ [] := by intro e; subst e; simp at hkm
          rcases HB.out.2.2.2 with hm0 | ⟨bb, ob, rfl, hcb⟩
          · exact absurd hm0 hmn
          have hbb := HBG.out bb ob rfl hmn
          have d1 := okeep hOut (hcb k hkm) (fun h => absurd (show _ = _ from h) (by omega))
          have hy := NumR.limb_get hm k
          have q0 := hQ.cell (i + k) (by omega)
          have qf := hQ.frozen (i + k)
          have ho := NumR.limb_get hQL (i + k)
          have HQ1 := Lib.hid (HQS.out (c + Q.getD (i + k) 0 + x * m.getD k 0) (by omega) rfl hkm hQV.out)
          have HLt := Lib.hid (NumR.step_lt hx hy ho hcB)
          generalize m.getD k 0 = y at *
          generalize Q.getD (i + k) 0 = o at *
          have hlt2 : (i : Int) + (k : Int) < (l.length : Int) + (m.length : Int) + 1 := by omega
          have e1 := NumR.w64' (x := x) (by unfold NumR.BB at *; omega)
          have e2 := NumR.w64' (x := y) (by unfold NumR.BB at *; omega)
          have e3 := NumR.w64' (x := o) (by unfold NumR.BB at *; omega)
          have e4 : IntKind.u64.wrap ((x : Int) * (y : Int)) = ((x * y : Nat) : Int) := by rw [← Int.natCast_mul]; exact NumR.w64' (by have := HLt.out; omega)
          have e5 : IntKind.u64.wrap ((c : Int) + (o : Int)) = ((c + o : Nat) : Int) := by rw [← Int.natCast_add]; exact NumR.w64' (by have := HLt.out; omega)
          have e6 : IntKind.u64.wrap (((c + o : Nat) : Int) + ((x * y : Nat) : Int)) = ((c + o + x * y : Nat) : Int) := by rw [← Int.natCast_add]; exact NumR.w64' HLt.out
          generalize x * y = p at e4 e6 HQ1 HLt
          generalize c + o = t1 at e5 e6 HQ1 HLt
          generalize t1 + p = t at e6 HQ1 HLt
          have qb := hQ.set (i + k) (t % NumR.BB)
          have ql := NumR.limbs_set hQL (k := i + k) (Nat.mod_lt t NumR.BB_pos)
          have hOut2 := hOut.set (p := ⟨w.heap.size + 3, i + k, none⟩) (fun _ => rfl) (.int .u32 ((t % NumR.BB : Nat) : Int))
          obtain ⟨r, hr⟩ : ∃ r, r = t % NumR.BB := ⟨_, rfl⟩
          obtain ⟨z, hz⟩ : ∃ z, z = t / NumR.BB := ⟨_, rfl⟩
          rw [← hr] at qb ql hOut2 HQ1
          rw [← hz] at HQ1
          have er : (t : Int) % 65536 = (r : Int) := by unfold NumR.BB at hr; omega
          have er2 : (t : Int).tmod 65536 = (r : Int) := by rw [Int.tmod_eq_emod_of_nonneg (by omega)]; exact er
          have hrB : r < 65536 := by unfold NumR.BB at hr; omega
          have er3 := w32 (x := r) (by unfold BB; omega)
          have ez : (t : Int) / 65536 = (z : Int) := by unfold NumR.BB at hz; omega
          have hzB : z < NumR.BB := by rw [hz]; exact Nat.div_lt_of_lt_mul HLt.out
          have ez2 := NumR.w64' (x := z) (by unfold NumR.BB at *; omega)
          clear hr hz hql
          go_wp2
          go_quiet (fail)
          go_wp2
          refine ⟨⟨k + 1, z, _, by omega, by go_num, rfl, hzB, qb, Lib.hid (by simpa using hQl.out), ql, HQ1, hOut2.drewN _⟩, by simp [intOf]; omega⟩
        · have hkm' : decide (k < m.length) = false := by simp; omega
          by_cases hc0 : 0 < c
          · have HK := Lib.hid (NumR.carry_end hl hm hi hx hc0 (by omega) hQV.out)
            obtain rfl : k = m.length := HK.out
            clear HK
            have q0 := hQ.cell (i + m.length) (by omega)
            have qf := hQ.frozen (i + m.length)
            have ho := NumR.limb_get hQL (i + m.length)
            have HQ1 := Lib.hid (NumR.mul_last (m := m) (x := x) (V := NumR.val (l.take i) * NumR.val m) (t := c + Q.getD (i + m.length) 0) (by omega) rfl hQV.out)
            generalize Q.getD (i + m.length) 0 = o at *
            have hlt2 : (i : Int) + (m.length : Int) < (l.length : Int) + (m.length : Int) + 1 := by omega
            have e3 := NumR.w64' (x := o) (by unfold NumR.BB at *; omega)
            have e5 : IntKind.u64.wrap ((c : Int) + (o : Int)) = ((c + o : Nat) : Int) := by rw [← Int.natCast_add]; exact NumR.w64' (by unfold NumR.BB at *; omega)
            have HLt : c + o < NumR.BB * NumR.BB := by unfold NumR.BB at *; omega
            generalize c + o = t at e5 HQ1 HLt
            have qb := hQ.set (i + m.length) (t % NumR.BB)
            have ql := NumR.limbs_set hQL (k := i + m.length) (Nat.mod_lt t NumR.BB_pos)
            have hOut2 := hOut.set (p := ⟨w.heap.size + 3, i + m.length, none⟩) (fun _ => rfl) (.int .u32 ((t % NumR.BB : Nat) : Int))
            obtain ⟨r, hr⟩ : ∃ r, r = t % NumR.BB := ⟨_, rfl⟩
            obtain ⟨z, hz⟩ : ∃ z, z = t / NumR.BB := ⟨_, rfl⟩
            rw [← hr] at qb ql hOut2 HQ1
            rw [← hz] at HQ1
            have er : (t : Int) % 65536 = (r : Int) := by unfold NumR.BB at hr; omega
            have er2 : (t : Int).tmod 65536 = (r : Int) := by rw [Int.tmod_eq_emod_of_nonneg (by omega)]; exact er
            have hrB : r < 65536 := by unfold NumR.BB at hr; omega
            have er3 := w32 (x := r) (by unfold BB; omega)
            have ez : (t : Int) / 65536 = (z : Int) := by unfold NumR.BB at hz; omega
            have hzB : z < NumR.BB := by rw [hz]; exact Nat.div_lt_of_lt_mul HLt
            have ez2 := NumR.w64' (x := z) (by unfold NumR.BB at *; omega)
            clear hr hz hql HLt
            go_wp2
            refine ⟨⟨m.length + 1, z, _, by omega, by go_num, rfl, hzB, qb, Lib.hid (by simpa using hQl.out), ql, HQ1, hOut2⟩, by simp [intOf] <;> omega⟩
          · obtain rfl : c = 0 := by omega
            have HD := Lib.hid (NumR.mul_done hlt (by omega) HX.out hQV.out)
            clear hql
            go_wp2
            refine ⟨⟨i + 1, Q, by omega, by go_num, hQ, hQl, hQL, HD, hOut⟩, by simp [intOf]; omega⟩
    · obtain rfl : i = l.length := by omega
      have hu := hO.u32 (limbs_of_r hOL) (by have := hOl.out; unfold maxLen; omega)
      have HV := Lib.hid (show sg (n1 != n2) (NumR.val O) = sg n1 (NumR.val l) * sg n2 (NumR.val m) by rw [hV.out, List.take_length, sg_mul])
      have nc := fun W h => rnorm_c (n1 != n2) (some ⟨w.heap.size + 3, 0, none⟩) O.length O W h hOL
      rw [HV.out] at nc
      have hB2 : Below w.heap.size w wr := hB.trans (hOut.to_below (fun k hk _ h => absurd (show _ = _ from h) (by omega)) hz)
      have hol := hOl.out
      have hne : ∀ w', (binOp .neq 4 (.bool n1) (.bool n2)).run Tryz.prog w' = .ok (.bool (n1 != n2)) w' := fun w' => by cases n1 <;> cases n2 <;> rfl
      rw [hol] at nc hu
      have HU := Lib.hid hu
      clear hol hV hu hOl
      go_wp2_with fail
      refine (nc _ HU.out).mono ?_
      rintro e w2 ⟨⟨v, rfl, hi⟩, hb2⟩
      replace r0f := bkeepf hb2 r0 r0f
      replace r1f := bkeepf hb2 r1 r1f
      replace r0 := bkeep hb2 r0
      replace r1 := bkeep hb2 r1
      have hB3 := bthen hB2 hb2
      have HI2 := Lib.hid (hi.put2 r0 r1)
      obtain ⟨n3, a3, c3, l3, rfl, _, _, _, _, _⟩ := hi
      unfold iv at *
      have hz3 := hB3.size
      have hz4 := cell_lt r0
      clear x0 x1 y0 y1
      go_wp2
      refine bodyPost_ret (v := .agg #[.bool n3, .slice a3 l3.length c3]) (by simp [results, Tryz.results128, go_sem, *]) rfl ⟨⟨_, rfl, HI2.out _ _⟩, ?_⟩
      repeat (first | exact Below.refl _ _ | exact hB3 | refine Below.drew ?_ | refine below_drewN ?_ _ | refine bset ?_ (by simp <;> omega) _ | refine bal ?_ _)
theorem rmul_c (vx vy : Value) (x y : Int) (k m : Nat) (w : World) (hx : IsRef w vx x) (hy : IsRef w vy y) (bx : Bd k x) (by' : Bd m y) (hk : k ≤ 17179869184) (hm : m ≤ 17179869184) :
    Calls Tryz.prog 128 #[vx, vy] w fun e w' => (∃ v, e = .returned v ∧ IsRef w' v (x * y)) ∧ Below w.heap.size w w' := by
  obtain ⟨n1, a1, c1, l1, rfl, u1, q1, g1, s1, rfl⟩ := hx
  obtain ⟨n2, a2, c2, l2, rfl, u2, q2, g2, s2, rfl⟩ := hy
  exact rmulV_c n1 n2 a1 a2 c1 c2 l1 l2 w u1 u2 q1 q2 (rbd_len g1 (rsg_bd bx) hk) (rbd_len g2 (rsg_bd by') hm)
end Go.Proofs.YthaohpfbengabaaGreatDoor

/- 'Lim w w'': no limb has turned. -/
namespace Go.Proofs.YthaohpfbengabaaGreatDoor
open Num
open Go.ChangeShapes Go.WideShapes Go.ChangeAt Go.RowKit
set_option linter.unusedVariables false
set_option linter.unusedSimpArgs false
/-- every limb of w is there still -/
def Lim (w w' : World) : Prop := ∀ (b : Nat), typOf w b = some 133 → typOf w' b = some 133 ∧ ∀ (o : Nat) (n : Int), w.cell? ⟨b, o, none⟩ = some (.int .u32 n) → w'.cell? ⟨b, o, none⟩ = some (.int .u32 n)
section
variable {a b c w w' : World}
theorem Lim.refl (w : World) : Lim w w := fun _ h => ⟨h, fun _ _ h => h⟩
theorem Lim.trans (h : Lim a b) (k : Lim b c) : Lim a c := fun q ht => ⟨(k q (h q ht).1).1, fun o n hc => (k q (h q ht).1).2 o n ((h q ht).2 o n hc)⟩
theorem Lim.of_below (h : Below a.heap.size a b) : Lim a b := fun _ ht => ⟨typ_keep ht h, fun _ _ hc => bkeep h hc⟩
theorem Lim.below (h : Lim a b) (k : Below b.heap.size b c) : Lim a c := h.trans (.of_below k)
theorem Lim.alloc (h : Lim a b) (o : Obj) : Lim a (b.alloc o) := h.below (bal (Below.refl _ _) o)
theorem Lim.drew (h : Lim a b) : Lim a b.drew := h
theorem Lim.drewN (h : Lim a b) (n : Nat) : Lim a (b.drewN n) := h
/-- what is written is a row of another type -/
theorem Lim.grown {row : Option Nat} (h : Lim a b) (hg : b.grownBy c row) (hr : ∀ g, row = some g → typOf b g ≠ some 133) : Lim a c := h.trans fun q ht => by
  have e : c.heap[q]? = b.heap[q]? := hg.block q (typ_lt ht) fun e => hr q e.symm ht
  exact ⟨by rw [typ_of_block e]; exact ht, fun o n hc => by rw [World.cell?_of_block (w := b) e]; exact hc⟩
/-- a store into a cell that holds no limb -/
theorem Lim.put (h : Lim a b) {p : Addr} {v : Value} (hp : b.cell? p = some v) (hv : ∀ n, v ≠ .int .u32 n) (u : Value) : Lim a (b.setCell p u) := fun q ht => by
  refine ⟨by rw [typ_set]; exact (h q ht).1, fun o n hc => cell_far ((h q ht).2 o n hc) ?_ u⟩
  intro e
  rw [e, (h q ht).2 o n hc] at hp
  exact hv _ (Option.some.inj hp).symm
theorem Lim.bool (h : Lim a b) {p : Addr} {x : Bool} (hp : b.cell? p = some (.bool x)) (u : Value) : Lim a (b.setCell p u) := h.put hp (fun _ e => by cases e) u
theorem Lim.slice (h : Lim a b) {p : Addr} {x : Option Addr} {n m : Nat} (hp : b.cell? p = some (.slice x n m)) (u : Value) : Lim a (b.setCell p u) := h.put hp (fun _ e => by cases e) u
theorem C32.lim {o : Option Addr} {l : List Nat} (h : C32 a o l) (k : Lim a b) : C32 b o l := by
  rcases h with h | ⟨q, off, h1, h2⟩
  · exact .inl h
  · exact .inr ⟨q, off, h1, fun i hi => (k q h2.ty).2 _ _ (h2 i hi), (k q h2.ty).1⟩
theorem U32.lim {o : Option Addr} {cap : Nat} {l : List Nat} (h : U32 a o cap l) (k : Lim a b) : U32 b o cap l := ⟨h.1, h.2.1, h.2.2.1, h.2.2.2.lim k⟩
theorem IsInt.lim {v : Value} {z : Int} (h : IsInt a v z) (k : Lim a b) : IsInt b v z := by
  obtain ⟨neg, o, cap, l, h1, h2, h3⟩ := h
  exact ⟨neg, o, cap, l, h1, h2.lim k, h3⟩
theorem IsRef.lim {v : Value} {z : Int} (h : IsRef a v z) (k : Lim a b) : IsRef b v z := by
  obtain ⟨neg, o, cap, l, h1, h2, h3⟩ := h
  exact ⟨neg, o, cap, l, h1, h2.lim k, h3⟩
end
/-- what stays as long as no limb turns -/
def Lims (R : World → Value → Int → Prop) : Prop := ∀ w w' v z, R w v z → Lim w w' → R w' v z
theorem lims_int : Lims IsInt := fun _ _ _ _ h k => h.lim k
theorem lims_ref : Lims IsRef := fun _ _ _ _ h k => h.lim k
theorem own_typ {E : TypeId} {size n : Nat} {w0 wr : World} {v : Value} {xs : List Value} (h : OwnE E size w0 wr v n xs) {g : Nat} (hg : v.ownBlock = some g) : typOf wr g = some E := by
  rcases h.1.2 with ⟨rfl, _⟩ | ⟨g', c, cur, rfl, _, hh, _⟩
  · simp [Value.ownBlock] at hg
  · simp [Value.ownBlock] at hg
    subst hg
    unfold typOf; rw [hh]
end Go.Proofs.YthaohpfbengabaaGreatDoor

/- Rows of numbers in memory. -/
namespace Go.Proofs.YthaohpfbengabaaGreatDoor
open Num
open Go.ChangeShapes Go.WideShapes Go.ChangeAt Go.RowKit
set_option linter.unusedVariables false
set_option linter.unusedSimpArgs false
/-- n numbers in block b from off on -/
def IntsF (R : World → Value → Int → Prop) (w : World) (b off n : Nat) (f : Nat → Int) : Prop :=
  ∀ k, k < n → ∃ nb a len c, w.cell? ⟨b, off + k * 2, none⟩ = some (.bool nb) ∧ w.cell? ⟨b, off + k * 2 + 1, none⟩ = some (.slice a len c) ∧ R w (.agg #[.bool nb, .slice a len c]) (f k)
section
variable {R : World → Value → Int → Prop} {w w' : World} {b off n : Nat} {f f' : Nat → Int}
theorem IntsF.congr (h : IntsF R w b off n f) (he : ∀ k, k < n → f k = f' k) : IntsF R w b off n f' := fun k hk => by
  rw [← he k hk]; exact h k hk
theorem IntsF.take {m : Nat} (h : IntsF R w b off n f) (hm : m ≤ n) : IntsF R w b off m f := fun k hk => h k (by omega)
/-- the row's own block as it was, no limb turned -/
theorem IntsF.stay (hR : Lims R) (h : IntsF R w b off n f) (hb : w'.heap[b]? = w.heap[b]?) (hl : Lim w w') : IntsF R w' b off n f := fun k hk => by
  obtain ⟨nb, a, len, c, h1, h2, h3⟩ := h k hk
  exact ⟨nb, a, len, c, by rw [World.cell?_of_block (w := w) hb]; exact h1, by rw [World.cell?_of_block (w := w) hb]; exact h2, hR _ _ _ _ h3 hl⟩
theorem IntsF.keep (hR : Lims R) (h : IntsF R w b off n f) (hb : Below w.heap.size w w') : IntsF R w' b off n f := fun k hk => by
  obtain ⟨nb, a, len, c, h1, h2, h3⟩ := h k hk
  exact ⟨nb, a, len, c, bkeep hb h1, bkeep hb h2, hR _ _ _ _ h3 (.of_below hb)⟩
theorem IntsF.out {X : Nat → Prop} (hR : Lims R) (h : IntsF R w b off n f) (ho : Out X w w') (hx : ¬ X b) (hl : Lim w w') : IntsF R w' b off n f := fun k hk => by
  obtain ⟨nb, a, len, c, h1, h2, h3⟩ := h k hk
  exact ⟨nb, a, len, c, okeep ho h1 hx, okeep ho h2 hx, hR _ _ _ _ h3 hl⟩
/-- one of them is set -/
theorem IntsF.store (hR : Lims R) (h : IntsF R w b off n f) {k : Nat} (hk : k < n) {nb : Bool} {a : Option Addr} {len c : Nat} {z : Int} (hv : R w (.agg #[.bool nb, .slice a len c]) z) :
    IntsF R ((w.setCell ⟨b, off + k * 2, none⟩ (.bool nb)).setCell ⟨b, off + k * 2 + 1, none⟩ (.slice a len c)) b off n (fun i => if i = k then z else f i) := by
  obtain ⟨nb0, a0, len0, c0, h1, h2, h3⟩ := h k hk
  have hl : Lim w ((w.setCell ⟨b, off + k * 2, none⟩ (.bool nb)).setCell ⟨b, off + k * 2 + 1, none⟩ (.slice a len c)) :=
    ((Lim.refl w).bool h1 _).slice (cell_far h2 (by simp) _) _
  intro i hi
  by_cases e : i = k
  · subst e
    refine ⟨nb, a, len, c, cell_far (cell_here h1 _) (by simp) _, cell_here (cell_far h2 (by simp) _) _, ?_⟩
    simp only [if_true]
    exact hR _ _ _ _ hv hl
  · obtain ⟨nb1, a1, len1, c1, k1, k2, k3⟩ := h i hi
    refine ⟨nb1, a1, len1, c1, cell_far (cell_far k1 (by simp <;> omega) _) (by simp <;> omega) _, cell_far (cell_far k2 (by simp <;> omega) _) (by simp <;> omega) _, ?_⟩
    show R _ _ (if i = k then z else f i)
    rw [if_neg e]
    exact hR _ _ _ _ k3 hl
/-- two cells elsewhere are set -/
theorem IntsF.far (hR : Lims R) (h : IntsF R w b off n f) {g o : Nat} (hg : g ≠ b) {x : Bool} {y : Option Addr} {p q : Nat} (r0 : w.cell? ⟨g, o, none⟩ = some (.bool x)) (r1 : w.cell? ⟨g, o + 1, none⟩ = some (.slice y p q)) (u v : Value) :
    IntsF R ((w.setCell ⟨g, o, none⟩ u).setCell ⟨g, o + 1, none⟩ v) b off n f := fun i hi => by
  obtain ⟨nb1, a1, len1, c1, k1, k2, k3⟩ := h i hi
  exact ⟨nb1, a1, len1, c1, cell_far (cell_far k1 (addr_ne hg) _) (addr_ne hg) _, cell_far (cell_far k2 (addr_ne hg) _) (addr_ne hg) _, hR _ _ _ _ k3 (((Lim.refl w).bool r0 _).slice (cell_far r1 (by simp) _) _)⟩
end
theorem isInt_zero (w : World) : IsInt w (.agg #[.bool false, .slice none 0 0]) 0 :=
  ⟨false, none, 0, [], rfl, ⟨Nat.le_refl _, by unfold maxLen; omega, (fun _ h => by cases h), .inl rfl⟩, (fun h => absurd rfl h), (fun h => by cases h), rfl⟩
theorem isRef_zero (w : World) : IsRef w (.agg #[.bool false, .slice none 0 0]) 0 :=
  ⟨false, none, 0, [], rfl, ⟨Nat.le_refl _, by unfold maxLen; omega, (fun _ h => by cases h), .inl rfl⟩, (fun _ h => by cases h), (fun h => absurd rfl h), (fun h => by cases h), rfl⟩
/-- the cells of n noughts -/
def zcel (n : Nat) : Array Value := madeCells #[.bool false, .slice none 0 0] (n * 2)
theorem zcel_at {n k : Nat} (h : k < n) : (zcel n)[k * 2]? = some (.bool false) ∧ (zcel n)[k * 2 + 1]? = some (.slice none 0 0) := by
  unfold zcel madeCells
  constructor
  · simp [Array.getElem?_map, Array.getElem?_range, show k * 2 < n * 2 from by omega]
  · have e : (k * 2 + 1) % 2 = 1 := by omega
    simp [Array.getElem?_map, Array.getElem?_range, show k * 2 + 1 < n * 2 from by omega, e]
theorem infoInt : (Tryz.prog.info? 36).map (fun i => (i.zero, i.size, i.bytes)) = some (some (.agg #[.bool false, .slice none 0 0]), 2, 32) := by kernel_rfl
/-- a row of numbers of the call's own, built by append -/
def OwnF (R : World → Value → Int → Prop) (E : TypeId) (w0 wr : World) (v : Value) (n : Nat) (f : Nat → Int) : Prop :=
  ∃ xs, OwnE E 2 w0 wr v n xs ∧ ∀ k, k < n → ∃ nb a len c, xs[k * 2]? = some (.bool nb) ∧ xs[k * 2 + 1]? = some (.slice a len c) ∧ R wr (.agg #[.bool nb, .slice a len c]) (f k)
section
variable {R : World → Value → Int → Prop} {E : TypeId} {w0 wr w' : World} {v : Value} {n : Nat} {f : Nat → Int}
theorem OwnF.nil (R : World → Value → Int → Prop) (E : TypeId) {w0 wr : World} (f : Nat → Int) (hb : Below w0.heap.size w0 wr) : OwnF R E w0 wr (.slice none 0 0) 0 f := ⟨[], OwnE.nil _ _ hb, fun k hk => absurd hk (by omega)⟩
theorem OwnF.below (hR : Lims R) (h : OwnF R E w0 wr v n f) (hb : Below wr.heap.size wr w') : OwnF R E w0 w' v n f := by
  obtain ⟨xs, h1, h2⟩ := h
  refine ⟨xs, h1.below hb, fun k hk => ?_⟩
  obtain ⟨nb, a, len, c, k1, k2, k3⟩ := h2 k hk
  exact ⟨nb, a, len, c, k1, k2, hR _ _ _ _ k3 (.of_below hb)⟩
theorem OwnF.bel (h : OwnF R E w0 wr v n f) : Below w0.heap.size w0 wr := by obtain ⟨xs, h1, _⟩ := h; exact h1.2
theorem OwnF.view (h : OwnF R E w0 wr v n f) : ∃ a c, v = .slice a n c ∧ n ≤ c ∧ c ≤ maxLen ∧ (n = 0 ∨ ∃ g, a = some ⟨g, 0, none⟩ ∧ w0.heap.size ≤ g ∧ IntsF R wr g 0 n f) := by
  obtain ⟨xs, ⟨⟨hl, h1⟩, _⟩, h2⟩ := h
  rcases h1 with ⟨rfl, rfl⟩ | ⟨g, cap, cur, rfl, hg, hh, hc, hm, hs, ht⟩
  · exact ⟨none, 0, rfl, Nat.le_refl _, by unfold maxLen; omega, .inl rfl⟩
  · refine ⟨_, cap, rfl, hc, hm, .inr ⟨g, rfl, hg, fun k hk => ?_⟩⟩
    obtain ⟨nb, a, len, c, k1, k2, k3⟩ := h2 k hk
    have cel : ∀ j u, xs[j]? = some u → wr.cell? ⟨g, j, none⟩ = some u := fun j u hj => by
      have hj2 : j < n * 2 := by have := (List.getElem?_eq_some_iff.1 hj).1; omega
      rw [← ht, List.getElem?_take_of_lt (by omega)] at hj
      simpa [World.cell?, hh] using hj
    exact ⟨nb, a, len, c, by rw [Nat.zero_add]; exact cel _ _ k1, by rw [Nat.zero_add]; exact cel _ _ k2, k3⟩
end
/-- what an append of one number makes of such a row -/
theorem own_snoc {R : World → Value → Int → Prop} (hR : Lims R) {E : TypeId} {w0 wr w' : World} {v' : Value} {n : Nat} {f : Nat → Int} {xs : List Value} {nb : Bool} {a : Option Addr} {len c : Nat} {z : Int}
    (h2 : ∀ k, k < n → ∃ nb a len c, xs[k * 2]? = some (.bool nb) ∧ xs[k * 2 + 1]? = some (.slice a len c) ∧ R wr (.agg #[.bool nb, .slice a len c]) (f k)) (hl : xs.length = n * 2)
    (hv : R wr (.agg #[.bool nb, .slice a len c]) z) (hlim : Lim wr w') (hO : OwnE E 2 w0 w' v' (n + 1) (xs ++ [.bool nb, .slice a len c])) : OwnF R E w0 w' v' (n + 1) (fun i => if i = n then z else f i) := by
  refine ⟨_, hO, fun k hk => ?_⟩
  by_cases e : k = n
  · subst e
    refine ⟨nb, a, len, c, ?_, ?_, ?_⟩
    · rw [List.getElem?_append_right (by omega), hl]; simp
    · rw [List.getElem?_append_right (by omega), hl]; simp
    · simp only [if_true]; exact hR _ _ _ _ hv hlim
  · obtain ⟨nb1, a1, len1, c1, k1, k2, k3⟩ := h2 k (by omega)
    refine ⟨nb1, a1, len1, c1, ?_, ?_, ?_⟩
    · rw [List.getElem?_append_left (by omega)]; exact k1
    · rw [List.getElem?_append_left (by omega)]; exact k2
    · show R _ _ (if k = n then z else f k)
      rw [if_neg e]; exact hR _ _ _ _ k3 hlim
section
variable {P : Program} {T E : TypeId} {bytes : Nat} {R : World → Value → Int → Prop} {ops : Array Oper} {o : Oper} {a : Act} {Q : Exit → Act → World → Prop} {w0 wr : World} {v : Value} {n : Nat} {f : Nat → Int} {t : TypeId} {s x : Operand} {nb : Bool} {ad : Option Addr} {len c m cc : Nat} {z : Int}
/-- append of one number -/
theorem app_num {rest : List Oper} (el : Elt P T E 2 bytes) (hE : E ≠ 133) (hR : Lims R) (hgd : o.guard = none)
    (ho : o.op = .call { callee := .builtin .append, args := #[s, x], argTypes := #[T, T] }) (hO : OwnF R E w0 wr v n f) (hv : R wr (.agg #[.bool nb, .slice ad len c]) z) (hs : a.eval s = v)
    (hx : a.eval x = .slice (some ⟨wr.heap.size, 0, none⟩) 1 cc) (hn : n + 1 ≤ 1099511627776)
    (h : ∀ v' w', OwnF R E w0 w' v' (n + 1) (fun i => if i = n then z else f i) → Lim wr w' → Out (fun k => v.ownBlock = some k) wr w' → wpList P ops Q rest (a.put o.dst v') w') : wpList P ops Q (o :: rest) a (wr.alloc (.cells #[.bool nb, .slice ad len c] t)) := by
  obtain ⟨i, z0, hi, hz, hsize, hby, hzs⟩ := el.info
  obtain ⟨xs, h1, h2⟩ := hO
  have hb : (n + 1) * bytes ≤ 1099511627776 * 128 := Nat.mul_le_mul hn el.small
  refine wpList_append_own _ hgd s x T ho w0.heap.size E i z0 2 bytes el.ht hi hz hsize hby hzs el.pos v n xs hs (h1.1.alloc _) ⟨wr.heap.size, 0, none⟩ 1 cc [.bool nb, .slice ad len c] hx rfl (cells_new wr _ t) (fun u hu => by simp at hu; rcases hu with rfl | rfl <;> rfl) (by unfold maxLen; omega) (by omega) (by have := h1.2.size; simp; omega) ?_
  intro v' w' hown hg _
  have hl : Lim wr w' := ((Lim.refl wr).alloc _).grown hg fun g hg' ht => hE (by
    rw [typ_keep (own_typ h1 hg') (bal (Below.refl _ _) _)] at ht
    exact Option.some.inj ht)
  exact h v' w' (own_snoc hR h2 h1.1.1 hv hl ⟨hown, below_append (wr := wr) (bal h1.2 _) (h1.1.alloc _) hg⟩) hl (((Out.refl _ wr).alloc _).grown hg fun k hk _ => hk)
theorem step_num0 {K : Act → World → Prop} {Z : Prop} (el : Elt P T E 2 bytes) (hE : E ≠ 133) (hR : Lims R) (hgd : o.guard = none)
    (ho : o.op = .call { callee := .builtin .append, args := #[s, x], argTypes := #[T, T] }) (hO : OwnF R E w0 wr v n f) (hv : R wr (.agg #[.bool nb, .slice ad len c]) z) (hs : a.eval s = v)
    (hx : a.eval x = .slice (some ⟨wr.heap.size, 0, none⟩) 1 cc) (hn : n + 1 ≤ 1099511627776)
    (h : ∀ v' w', OwnF R E w0 w' v' (n + 1) (fun i => if i = n then z else f i) → Lim wr w' → Out (fun k => v.ownBlock = some k) wr w' → K (a.put o.dst v') w') : if Region.wanted o (yielded ops a.tmps) = true then Oper.wp P o a (wr.alloc (.cells #[.bool nb, .slice ad len c] t)) K Q else Z := by
  obtain ⟨i, z0, hi, hz, hsize, hby, hzs⟩ := el.info
  obtain ⟨xs, h1, h2⟩ := hO
  have hb : (n + 1) * bytes ≤ 1099511627776 * 128 := Nat.mul_le_mul hn el.small
  have hw : Region.wanted o (yielded ops a.tmps) = true := by simp [Region.wanted, hgd]
  rw [if_pos hw]
  refine wp_append_own _ s x T ho w0.heap.size E i z0 2 bytes el.ht hi hz hsize hby hzs el.pos v n xs hs (h1.1.alloc _) ⟨wr.heap.size, 0, none⟩ 1 cc [.bool nb, .slice ad len c] hx rfl (cells_new wr _ t) (fun u hu => by simp at hu; rcases hu with rfl | rfl <;> rfl) (by unfold maxLen; omega) (by omega) (by have := h1.2.size; simp; omega) ?_
  intro v' w' hown hg _
  have hl : Lim wr w' := ((Lim.refl wr).alloc _).grown hg fun g hg' ht => hE (by
    rw [typ_keep (own_typ h1 hg') (bal (Below.refl _ _) _)] at ht
    exact Option.some.inj ht)
  exact h v' w' (own_snoc hR h2 h1.1.1 hv hl ⟨hown, below_append (wr := wr) (bal h1.2 _) (h1.1.alloc _) hg⟩) hl (((Out.refl _ wr).alloc _).grown hg fun k hk _ => hk)
end
theorem infoRef : (Tryz.prog.info? 43).map (fun i => (i.zero, i.size, i.bytes)) = some (some (.agg #[.bool false, .slice none 0 0]), 2, 32) := by kernel_rfl
theorem elInt : Elt Tryz.prog 59 36 2 32 := Elt.mk' Tryz.underlying59 infoInt rfl (by decide) (by decide)
/-- a block without frozen cells -/
def Free (w : World) (g : Nat) : Prop := g < w.heap.size ∧ ∀ j, w.frozen? ⟨g, j, none⟩ = false
theorem Free.keep {w w' : World} {g : Nat} (h : Free w g) (hb : Below w.heap.size w w') : Free w' g :=
  ⟨Nat.lt_of_lt_of_le h.1 hb.size, fun j => by rw [hb.frozen h.1]; exact h.2 j⟩
theorem Free.new {w : World} {c : Array Value} {t : TypeId} {g : Nat} (hg : g = w.heap.size) : Free (w.alloc (.cells c t)) g :=
  ⟨by simp <;> omega, fun j => by rw [World.frozen?_alloc_at (hn := hg)] <;> rfl⟩
theorem Free.set {w : World} {g : Nat} (h : Free w g) (p : Addr) (v : Value) : Free (w.setCell p v) g := ⟨by simpa using h.1, fun j => by rw [World.frozen?_setCell]; exact h.2 j⟩
theorem Free.out {X : Nat → Prop} {w w' : World} {g : Nat} (h : Free w g) (ho : Out X w w') (hx : ¬ X g) : Free w' g :=
  ⟨Nat.lt_of_lt_of_le h.1 ho.size, fun j => by rw [World.frozen?_of_block (w := w) (ho.block g h.1 hx)]; exact h.2 j⟩
theorem IntsF.at0 {R : World → Value → Int → Prop} {w : World} {b n k : Nat} {f : Nat → Int} (h : IntsF R w b 0 n f) (hk : k < n) : ∃ nb a len c, w.cell? ⟨b, k * 2, none⟩ = some (.bool nb) ∧ w.cell? ⟨b, k * 2 + 1, none⟩ = some (.slice a len c) ∧ R w (.agg #[.bool nb, .slice a len c]) (f k) := by
  simpa using h k hk
theorem IntsF.store0 {R : World → Value → Int → Prop} {w : World} {b n : Nat} {f : Nat → Int} (hR : Lims R) (h : IntsF R w b 0 n f) {k : Nat} (hk : k < n) {nb : Bool} {a : Option Addr} {len c : Nat} {z : Int} (hv : R w (.agg #[.bool nb, .slice a len c]) z) :
    IntsF R ((w.setCell ⟨b, k * 2, none⟩ (.bool nb)).setCell ⟨b, k * 2 + 1, none⟩ (.slice a len c)) b 0 n (fun i => if i = k then z else f i) := by
  have := h.store hR hk hv
  simpa using this
/-- two cells of a struct are set: no limb turns -/
theorem Lim.set2 {w : World} {g o : Nat} {x : Bool} {y : Option Addr} {p q : Nat} (r0 : w.cell? ⟨g, o, none⟩ = some (.bool x)) (r1 : w.cell? ⟨g, o + 1, none⟩ = some (.slice y p q)) (u v : Value) : Lim w ((w.setCell ⟨g, o, none⟩ u).setCell ⟨g, o + 1, none⟩ v) :=
  ((Lim.refl w).bool r0 _).slice (cell_far r1 (by simp) _) _
theorem Out.set2 {X : Nat → Prop} {a b : World} (h : Out X a b) {g o : Nat} (hx : g < a.heap.size → X g) (u v : Value) : Out X a ((b.setCell ⟨g, o, none⟩ u).setCell ⟨g, o + 1, none⟩ v) := (h.set hx u).set hx v
end Go.Proofs.YthaohpfbengabaaGreatDoor

/- prog: an instruction: two, constant, Asks. -/
namespace Go.Proofs.YthaohpfbengabaaGreatDoor
open Go.ChangeShapes Go.WideShapes Go.ChangeAt Go.RowKit
set_option linter.unusedVariables false
set_option linter.unusedSimpArgs false
/-- an instruction -/
structure Ins where
  op : Int
  to : Int
  a : Int
  b : Int
  c : Int
deriving Inhabited
def Ins.v (i : Ins) : Value := .agg #[.int .i64 i.op, .int .i64 i.to, .int .i64 i.a, .int .i64 i.b, .int .i64 i.c]
def twoB (op : Int) : Bool := decide (op = 3 ∨ op = 4)
def constB (op c : Int) : Bool := if op = 5 ∨ op = 6 then decide (c ≠ 0 ∧ -512 ≤ c ∧ c ≤ 512) else if op = 7 ∨ op = 8 then decide (1 ≤ c ∧ c ≤ 64) else decide (c = 0)
end Go.Proofs.YthaohpfbengabaaGreatDoor

/- prog: may. -/
namespace Go.Proofs.YthaohpfbengabaaGreatDoor
open Go.ChangeShapes Go.WideShapes Go.ChangeAt Go.RowKit
set_option linter.unusedVariables false
set_option linter.unusedSimpArgs false
def mayB (op t a b c regs : Int) : Bool := decide (1 ≤ op ∧ op ≤ 8 ∧ 0 ≤ t ∧ t < regs ∧ (twoB op = false → b = 0) ∧ constB op c = true ∧ 0 ≤ a ∧ a < regs ∧ (twoB op = true → 0 ≤ b ∧ b < regs))
end Go.Proofs.YthaohpfbengabaaGreatDoor

