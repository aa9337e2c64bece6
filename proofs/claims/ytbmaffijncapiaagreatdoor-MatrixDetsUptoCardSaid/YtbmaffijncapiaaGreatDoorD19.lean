/- Texts of this seat, laid together: LsU, MxK, QRow, QRef. Each opens with its own remark, which says what it proves, and under which conditions. -/
import Derived.Test.YtbmaffijncapiaaGreatDoorD03
import Derived.Test.YtbmaffijncapiaaGreatDoorD05
import Derived.Test.YtbmaffijncapiaaGreatDoorD18
import Derived.Test.YtbmaffijncapiaaGreatDoorD01
import Derived.Laws.AppendOwn
import Derived.OwnWalkIn
import Derived.Lib.AppendZeros
import Derived.Test.YtbmaffijncapiaaGreatDoorD04
import Derived.Test.YtbmaffijncapiaaGreatDoorD17
import Derived.Test.YtbmaffijncapiaaGreatDoorD14
import Derived.Test.YtbmaffijncapiaaGreatDoorD11
set_option linter.unusedVariables false
set_option linter.unusedSimpArgs false
/- A list of one-cell values in a variable in memory, that grows in the rounds of a range over a function. -/
namespace Go.Proofs.YtbmaffijncapiaaGreatDoor
open Num
open Go.ChangeShapes Go.WideShapes Go.ChangeAt Go.RowKit
set_option linter.unusedVariables false
set_option linter.unusedSimpArgs false
section
variable {TT T : TypeId} {bytes : Nat}
theorem appU_blk (el : Elt Tryz.prog TT T 1 bytes) (ty : TypeId) {W : World} {v : Value} {n base : Nat} {xs : List Value} (h : W.ownsRow base T 1 v n xs) (hm : n + 1 ≤ 1099511627776) {gb cc : Nat} {y : Value} (hy : W.cell? ⟨gb, 0, none⟩ = some y) (oy : y.oneCell' = true) :
    ∃ v' w', (Builtin.append_ #[TT, TT] ty #[v, .slice (some ⟨gb, 0, none⟩) 1 cc]).run Tryz.prog W = .ok v' w' ∧ (∀ q, q < W.heap.size → typOf w' q = typOf W q) ∧ ∀ q, v'.ownBlock = some q → v.ownBlock = some q ∨ W.heap.size ≤ q := by
  have tyb : ∀ {b : World}, Below W.heap.size W b → ∀ q, q < W.heap.size → typOf b q = typOf W q := fun h q hq => by unfold typOf; rw [h.block q hq]
  obtain ⟨i0, z0, hi, hz0, hz1, hz2, hz3⟩ := el.info
  have hb : (n + 1) * bytes ≤ 1099511627776 * 128 := Nat.mul_le_mul hm el.small
  have hl : ([y] : List Value).length = 1 * i0.size := by rw [hz1]; rfl
  have hnews : ∀ j u, ([y] : List Value)[j]? = some u → W.cell? ((⟨gb, 0, none⟩ : Addr).add j) = some u := by
    intro j u hj
    have hj2 : j < 1 := (List.getElem?_eq_some_iff.1 hj).1
    obtain rfl : j = 0 := by omega
    simp at hj; subst hj; simpa [Addr.add] using hy
  rcases h.2 with ⟨rfl, rfl⟩ | ⟨g, cap, cs, rfl, hg, hh, h1, h2, h3, h4⟩
  · refine ⟨_, _, run_append_nil W _ _ _ i0 z0 el.ht hi hz0 ⟨gb, 0, none⟩ 1 cc [y] hl hnews (by omega) (by omega) (by rw [hz2]; omega), tyb (bal (Below.refl W.heap.size W).drew _), fun q hq => ?_⟩
    simp [Value.ownBlock] at hq
    right; omega
  · by_cases hroom : n + 1 ≤ cap
    · refine ⟨_, _, run_append_room W _ _ _ i0 el.ht hi g n cap cs hh ⟨gb, 0, none⟩ 1 cc [y] hl hnews (fun u hu => by simp at hu; subst hu; assumption) hroom (by rw [hz1, h3]; simp; omega), fun q hq => ?_, fun q hq => ?_⟩
      · by_cases e : q = g
        · subst e; unfold typOf; rw [setRow_heap W q cs _ _ _ hh, hh]
        · unfold typOf; rw [setRow_other W g q _ e]
      · simp [Value.ownBlock] at hq ⊢
        left; exact hq
    · have holds : ∀ j u, (cs.toList.take (n * 1))[j]? = some u → W.cell? ((⟨g, 0, none⟩ : Addr).add j) = some u := by
        intro j u hj
        have hj2 : j < n * 1 := by have := (List.getElem?_eq_some_iff.1 hj).1; rw [List.length_take] at this; omega
        rw [List.getElem?_take_of_lt hj2] at hj
        have e : (⟨g, 0, none⟩ : Addr).add j = ⟨g, j, none⟩ := by unfold Addr.add; split <;> simp_all
        rw [e, cell_of_row W g j cs _ _ hh]
        simpa using hj
      refine ⟨_, _, run_append_grow W _ _ _ i0 z0 el.ht hi hz0 ⟨g, 0, none⟩ n cap (cs.toList.take (n * 1)) (by rw [List.length_take, Array.length_toList, h3, hz1]; omega) holds ⟨gb, 0, none⟩ 1 cc [y] hl hnews (by omega) (by omega) (by rw [hz2]; exact growslice_fits (by omega) (by omega)), tyb (bal (Below.refl W.heap.size W).drew _), fun q hq => ?_⟩
      simp [Value.ownBlock] at hq
      right; omega
end
theorem OutT.orL {S X : Nat → Prop} {a b : World} (h : OutT S a b) : OutT (fun q => S q ∨ X q) a b :=
  ⟨h.1.mono fun _ _ h => .inl h, fun q _ hl => by
    by_cases e : S q
    · exact h.2 q e hl
    · unfold typOf; rw [h.1.block q hl e]⟩
structure LstV {α : Type} (TT T : TypeId) (Pr : World → Value → α → Prop) (w0 : World) (db : Nat) (L : List α) (v : Value) (W : World) : Prop where
  c0 : W.cell? ⟨db, 0, none⟩ = some v
  f0 : W.frozen? ⟨db, 0, none⟩ = false
  ty : typOf W db = some TT
  own : ∃ xs, W.ownsRow w0.heap.size T 1 v L.length xs ∧ ∀ k (hk : k < L.length), ∃ u, xs[k]? = some u ∧ Pr W u L[k]
  out : Out (fun q => q = db) w0 W
structure PrU {α : Type} (T : TypeId) (Pr : World → Value → α → Prop) (n0 db : Nat) : Prop where
  one : ∀ {w v x}, Pr w v x → v.oneCell' = true
  clo : ∀ {S : Nat → Prop} {X Y u x}, Pr X u x → Clo n0 S X Y → Pr Y u x
  own : ∀ {X Y u x}, Pr X u x → Out (fun q => q = db ∨ (n0 ≤ q ∧ typOf X q = some T)) X Y → Lim X Y → Pr Y u x
def LstS {α : Type} (TT T : TypeId) (Pr : World → Value → α → Prop) (w0 : World) (db : Nat) (L : List α) (S : Nat → Prop) (W : World) : Prop := ∃ v, S = (fun q => q = db ∨ v.ownBlock = some q) ∧ LstV TT T Pr w0 db L v W
section
variable {α : Type} {TT T : TypeId} {bytes : Nat} {Pr : World → Value → α → Prop} {w0 W W' : World} {db : Nat} {L : List α} {v : Value} {S : Nat → Prop}
theorem LstV.ex (h : LstV TT T Pr w0 db L v W) : ∃ a c, v = .slice a L.length c := by
  obtain ⟨xs, ⟨_, h1⟩, _⟩ := h.own
  rcases h1 with ⟨rfl, h0⟩ | ⟨g, cap, cur, rfl, _⟩
  · exact ⟨none, 0, by rw [h0]⟩
  · exact ⟨_, _, rfl⟩
theorem LstV.keep (hP : PrU T Pr w0.heap.size db) (h : LstV TT T Pr w0 db L v W) (b : Below W.heap.size W W') : LstV TT T Pr w0 db L v W' := by
  obtain ⟨xs, h1, h2⟩ := h.own
  refine ⟨bkeep b h.c0, bkeepf b h.c0 h.f0, typ_keep h.ty b, ⟨xs, own_below (w0 := w0) h1 b, fun k hk => ?_⟩, h.out.below b⟩
  obtain ⟨u, hu, hp⟩ := h2 k hk
  exact ⟨u, hu, hP.clo (S := fun _ => False) hp (.of_below b)⟩
theorem LstS.soil (h : LstS TT T Pr w0 db L S W) (h1 : TT ≠ 177) (h2 : T ≠ 177) : Soil S W := by
  obtain ⟨v, rfl, h⟩ := h
  rintro q (rfl | hq)
  · exact ⟨_, h.ty, h1⟩
  · obtain ⟨xs, h3, _⟩ := h.own
    exact ⟨_, own_typ' h3 hq, h2⟩
theorem LstS.clo (hP : PrU T Pr w0.heap.size db) (h : LstS TT T Pr w0 db L S W) (c : Clo w0.heap.size S W W') : LstS TT T Pr w0 db L S W' := by
  obtain ⟨v, rfl, h⟩ := h
  obtain ⟨xs, h1, h2⟩ := h.own
  refine ⟨v, rfl, c.cell (.inr (.inl rfl)) h.c0, c.frz (.inr (.inl rfl)) h.c0 h.f0, c.typ (.inr (.inl rfl)) h.ty, ⟨xs, ⟨h1.1, ?_⟩, fun k hk => ?_⟩, ?_⟩
  · rcases h1.2 with h3 | ⟨g, cap, cur, rfl, hg, hh, r⟩
    · exact .inl h3
    · exact .inr ⟨g, cap, cur, rfl, hg, by rw [c.block g (Array.getElem?_eq_some_iff.1 hh).1 (.inr (.inl (.inr (by simp [Value.ownBlock]))))]; exact hh, r⟩
  · obtain ⟨u, hu, hp⟩ := h2 k hk
    exact ⟨u, hu, hP.clo hp c⟩
  · have hl := c.low h.out.size
    exact ⟨hl.os.trans h.out.os, hl.tape.trans h.out.tape, hl.output.trans h.out.output, Nat.le_trans h.out.size hl.size, fun i hi hx => (hl.block i hi).trans (h.out.block i hi hx)⟩
theorem LstV.next (el : Elt Tryz.prog TT T 1 bytes) (hP : PrU T Pr w0.heap.size db) (hTT : TT ≠ 177) (hT : T ≠ 177) (ty : TypeId) {gb cc : Nat} {y : Value} {x : α} {W4 : World} (h : LstV TT T Pr w0 db L v W) (hdb : db < w0.heap.size) (hb : Below W.heap.size W W4) (hm : L.length + 1 ≤ 1099511627776) (hy : W4.cell? ⟨gb, 0, none⟩ = some y) (hp : Pr W4 y x) :
    ∃ v' w', (Builtin.append_ #[TT, TT] ty #[v, .slice (some ⟨gb, 0, none⟩) 1 cc]).run Tryz.prog W4 = .ok v' w' ∧ (∃ a c, v' = .slice a (L.length + 1) c) ∧ w'.cell? ⟨db, 0, none⟩ = some v ∧ w'.frozen? ⟨db, 0, none⟩ = false ∧ OutT (fun q => q = db ∨ v.ownBlock = some q) W (w'.setCell ⟨db, 0, none⟩ v') ∧ ∃ S', Grew (fun q => q = db ∨ v.ownBlock = some q) S' W ∧ LstS TT T Pr w0 db (L ++ [x]) S' (w'.setCell ⟨db, 0, none⟩ v') := by
  have h4 := h.keep hP hb
  obtain ⟨xs, k1, k2⟩ := h4.own
  obtain ⟨i0, z0, hi, hz0, hsize, hby, hzs⟩ := el.info
  have oy := hP.one hp
  have hbb : (L.length + 1) * bytes ≤ 1099511627776 * 128 := Nat.mul_le_mul hm el.small
  have hnews : ∀ j u, ([y] : List Value)[j]? = some u → W4.cell? ((⟨gb, 0, none⟩ : Addr).add j) = some u := by
    intro j u hj
    have hj2 : j < 1 := (List.getElem?_eq_some_iff.1 hj).1
    obtain rfl : j = 0 := by omega
    simp at hj; subst hj; simpa [Addr.add] using hy
  obtain ⟨v', w', hrun, r1, r2, r3⟩ := run_append_own (P := Tryz.prog) W4 w0.heap.size TT ty T i0 z0 1 bytes el.ht hi hz0 hsize hby hzs el.pos v L.length xs k1 ⟨gb, 0, none⟩ 1 cc [y] rfl hnews (fun u hu => by simp at hu; subst hu; exact oy) (by unfold maxLen; omega) (by omega) (Nat.le_trans h.out.size hb.size)
  obtain ⟨v2, w2, hrun2, hty, hq⟩ := appU_blk el ty k1 (by omega) (cc := cc) hy oy
  rw [hrun] at hrun2
  cases hrun2
  have hl : Lim W4 w' := (Lim.refl W4).grown r2 fun g hg' ht => by
    rw [own_typ' k1 hg'] at ht
    exact hT (Option.some.inj ht)
  have hne : some db ≠ v.ownBlock := fun e => by
    rcases k1.2 with ⟨h0, _⟩ | ⟨g, cap, cur, rfl, hg', _⟩
    · rw [h0] at e; simp [Value.ownBlock] at e
    · simp [Value.ownBlock] at e; omega
  have hs := r2.size
  have c0 : w'.cell? ⟨db, 0, none⟩ = some v := r2.cell h4.c0 hne
  have cf : w'.frozen? ⟨db, 0, none⟩ = false := by
    rw [World.frozen?_of_block (r2.block db (cell_lt h4.c0) hne)]; exact h4.f0
  have ht : typOf w' db = some TT := by
    rw [typ_of_block (w := W4) (r2.block db (cell_lt h4.c0) hne)]; exact h4.ty
  have ho4 : Out (fun q => v.ownBlock = some q) W4 w' := ⟨r2.os, r2.tape, r2.output, r2.size, fun q hq' hx => r2.block q hq' fun e => hx e.symm⟩
  have hno : ∀ q, v.ownBlock = some q → w0.heap.size ≤ q := fun q e => by
    rcases k1.2 with ⟨h0, _⟩ | ⟨g, cap, cur, rfl, hg', _⟩
    · rw [h0] at e; simp [Value.ownBlock] at e
    · simp [Value.ownBlock] at e; omega
  have hl2 : Lim w' (w'.setCell ⟨db, 0, none⟩ v') := ((Kp.refl (· ≠ TT) w').set (fun t ht' => by rw [ht] at ht'; cases ht'; exact fun k => k rfl) _).lim (fun e => hTT e.symm)
  have hoX : Out (fun q => q = db ∨ (w0.heap.size ≤ q ∧ typOf W4 q = some T)) W4 (w'.setCell ⟨db, 0, none⟩ v') := (ho4.mono fun q _ hq' => .inr ⟨hno q hq', own_typ' k1 hq'⟩).set (fun _ => .inl rfl) _
  have hPr : ∀ {u : Value} {z : α}, Pr W4 u z → Pr (w'.setCell ⟨db, 0, none⟩ v') u z := fun h => hP.own h hoX (hl.trans hl2)
  have hsh : ∃ a c, v' = .slice a (L.length + 1) c := by
    rcases r1.2 with ⟨h0, h1⟩ | ⟨g, cap, cur, h0, _⟩
    · omega
    · exact ⟨_, _, h0⟩
  refine ⟨v', w', hrun, hsh, c0, cf, ⟨?_, fun q hq' hl' => ?_⟩, _, ?_, ⟨v', rfl, cell_here c0 _, by rw [World.frozen?_setCell]; exact cf, by rw [typ_set]; exact ht, ⟨xs ++ [y], ?_, ?_⟩, ?_⟩⟩
  · exact ((Out.of_below _ hb).trans (ho4.mono fun _ _ h => .inr h)).set (fun _ => .inl rfl) _
  · rw [typ_set]
    rw [hty q (Nat.lt_of_lt_of_le hl' hb.size)]
    unfold typOf; rw [hb.block q hl']
  · intro q hq'
    rcases hq' with hq' | hq'
    · exact .inl (.inl hq')
    · rcases hq q hq' with h5 | h5
      · exact .inl (.inr h5)
      · exact .inr (Nat.le_trans hb.size h5)
  · rw [List.length_append]
    refine ⟨r1.1, ?_⟩
    rcases r1.2 with h3 | ⟨g, cap, cur, rfl, hg', hh, r⟩
    · exact .inl h3
    · exact .inr ⟨g, cap, cur, rfl, hg', (Below.heap_setCell _ _ _ _ (by show g ≠ db; omega)).trans hh, r⟩
  · intro k hk
    have hxl : xs.length = L.length := by simpa using k1.1
    by_cases e : k < L.length
    · obtain ⟨u, hu, hp'⟩ := k2 k e
      refine ⟨u, by rw [List.getElem?_append_left (by omega)]; exact hu, ?_⟩
      rw [List.getElem_append_left e]; exact hPr hp'
    · obtain rfl : k = L.length := by simp at hk; omega
      refine ⟨y, by rw [List.getElem?_append_right (by omega), hxl]; simp, ?_⟩
      simpa using hPr hp
  · exact ((h4.out.then ho4 fun i hi h5 => by have := hno i h5; omega)).set (fun _ => rfl) _
theorem LstV.isL (h : LstV TT T Pr w0 db L v W) : IsL T Pr w0.heap.size W v L := by
  obtain ⟨xs, ⟨hl, h1⟩, h2⟩ := h.own
  rcases h1 with ⟨rfl, h0⟩ | ⟨g, cap, cur, rfl, hg, hh, hc, hm, hs, ht⟩
  · exact ⟨none, 0, by rw [h0], by omega, by unfold maxLen; omega, .inl (List.length_eq_zero_iff.1 h0)⟩
  · refine ⟨_, cap, rfl, hc, hm, .inr ⟨g, 0, rfl, hg, by unfold typOf; rw [hh], fun k hk => ?_⟩⟩
    obtain ⟨u, hu, hr⟩ := h2 k hk
    refine ⟨u, ?_, hr⟩
    rw [← ht, List.getElem?_take_of_lt (by omega)] at hu
    rw [Nat.zero_add]
    simpa [World.cell?, hh] using hu
theorem app_lstIn {F : Fence} {n' : Nat} {ops : Array Oper} {o : Oper} {rest : List Oper} {a : Act} {Q : Exit → Act → World → Prop} {s x : Operand} {gb cc : Nat} {y : Value} {z : α} {W4 : World} (el : Elt Tryz.prog TT T 1 bytes) (hP : PrU T Pr w0.heap.size db) (hTT : TT ≠ 177) (hT : T ≠ 177)
    (hgd : o.guard = none) (ho : o.op = .call { callee := .builtin .append, args := #[s, x], argTypes := #[TT, TT] }) (h : LstV TT T Pr w0 db L v W) (hdb : db < w0.heap.size) (hb : Below W.heap.size W W4) (hm : L.length + 1 ≤ 1099511627776) (hy : W4.cell? ⟨gb, 0, none⟩ = some y) (hp : Pr W4 y z) (hs : a.eval s = v) (hx : a.eval x = .slice (some ⟨gb, 0, none⟩) 1 cc)
    (k : ∀ v' w', (∃ a c, v' = .slice a (L.length + 1) c) → w'.cell? ⟨db, 0, none⟩ = some v → w'.frozen? ⟨db, 0, none⟩ = false → OutT (fun q => q = db ∨ v.ownBlock = some q) W (w'.setCell ⟨db, 0, none⟩ v') → (∃ S', Grew (fun q => q = db ∨ v.ownBlock = some q) S' W ∧ LstS TT T Pr w0 db (L ++ [z]) S' (w'.setCell ⟨db, 0, none⟩ v')) → wpListIn F n' Tryz.prog ops Q rest (a.put o.dst v') w') : wpListIn F n' Tryz.prog ops Q (o :: rest) a W4 := by
  obtain ⟨v', w', hrun, h0, h1, h2, h3, h4⟩ := LstV.next el hP hTT hT o.type (cc := cc) h hdb hb hm hy hp
  refine wpListIn_plain hgd fun K hK' => ?_
  unfold Oper.wpIn
  refine ⟨?_, ?_⟩
  · simp [Oper.about, ho, resolve, Target.leads, Sem.run_pure]
  · rw [Oper.semAt_plain F _ _ (by rw [ho]; intro c hc'; cases hc')]
    simp [execOp, ho, resolve, invoke, builtin, hs, hx, hrun, Result.andThen]
    exact hK' _ _ (k v' w' h0 h1 h2 h3 h4)
end
theorem pru_pint (n0 db : Nat) : PrU 3 PInt n0 db := ⟨fun h => prs_pint.one h, fun h _ => h, fun h _ _ => h⟩
end Go.Proofs.YtbmaffijncapiaaGreatDoor

/- slices.Grow, slices.Concat at rows of numbers. -/
namespace Go.Proofs.YtbmaffijncapiaaGreatDoor
open Num
open Go.ChangeShapes Go.WideShapes Go.ChangeAt Go.RowKit
set_option linter.unusedVariables false
set_option linter.unusedSimpArgs false
attribute [local go_sem ↓] Go.wp_at_zero Go.wp_at_succ
theorem app_lt2 {L l : List Int} {k : Nat} (h : k < L.length) : (L ++ l).getD k 0 = L.getD k 0 := by simp [List.getD_eq_getElem?_getD, List.getElem?_append, h]
theorem app_ge2 {L l : List Int} {k : Nat} (h : L.length ≤ k) : (L ++ l).getD k 0 = l.getD (k - L.length) 0 := by
  simp [List.getD_eq_getElem?_getD, List.getElem?_append_right h]
theorem app_cat {ops : Array Oper} {rest : List Oper} {o : Oper} {a : Act} {Q : Exit → Act → World → Prop} {w0 wr : World} {v : Value} {L l : List Int} {b off c : Nat} {s x : Operand} (hgd : o.guard = none)
    (ho : o.op = .call { callee := .builtin .append, args := #[s, x], argTypes := #[68, 68] })
    (hO : OwnF IsInt 50 w0 wr v L.length (fun k => L.getD k 0)) (hl : IntsF IsInt wr b off l.length (fun k => l.getD k 0)) (hs : a.eval s = v) (hx : a.eval x = .slice (some ⟨b, off, none⟩) l.length c) (hn : L.length + l.length ≤ 1099511627776)
    (h : ∀ v' w', Hid (OwnF IsInt 50 w0 w' v' (L ++ l).length (fun k => (L ++ l).getD k 0)) → wpList Tryz.prog ops Q rest (a.put o.dst v') w') : wpList Tryz.prog ops Q (o :: rest) a wr := by
  obtain ⟨i0, z0, hi, hz0, hz1, hz2, hz3⟩ := elInt.info
  obtain ⟨xs, hO1, hO2⟩ := hO
  refine wpList_append_own _ hgd s x 68 ho w0.heap.size 50 i0 z0 2 32 Tryz.underlying68 hi hz0 hz1 hz2 hz3 (by decide) v L.length xs hs hO1.1 ⟨b, off, none⟩ l.length c (cellsAt wr b off (l.length * 2)) hx (cellsAt_len _ _ _ _)
    (cellsAt_at (Below.refl _ _) fun j hj => by obtain ⟨v, hv, _⟩ := intsF_cells hl j hj; exact ⟨v, hv⟩) (cellsAt_all (intsF_cells hl)) (by unfold maxLen; omega) (by omega) hO1.2.size ?_
  intro v' w' hown hg _
  have hbel := below_append (wr := wr) hO1.2 hO1.1 hg
  have hlim : Lim wr w' := (Lim.refl wr).grown hg fun g hg' ht => by
    rw [own_typ hO1 hg'] at ht
    exact absurd (Option.some.inj ht) (by decide)
  refine h v' w' (Lib.hid ⟨_, ⟨by rw [List.length_append]; exact hown, hbel⟩, fun k hk => ?_⟩)
  have hxl : xs.length = L.length * 2 := hO1.1.1
  rw [List.length_append] at hk
  by_cases e : k < L.length
  · obtain ⟨nb, ad, len, cp, k1, k2, k3⟩ := hO2 k e
    exact ⟨nb, ad, len, cp, by rw [List.getElem?_append_left (by omega)]; exact k1, by rw [List.getElem?_append_left (by omega)]; exact k2, by show IsInt _ _ ((L ++ l).getD k 0); rw [app_lt2 e]; exact lims_int _ _ _ _ k3 hlim⟩
  · obtain ⟨nb, ad, len, cp, k1, k2, k3⟩ := hl (k - L.length) (by omega)
    refine ⟨nb, ad, len, cp, ?_, ?_, by show IsInt _ _ ((L ++ l).getD k 0); rw [app_ge2 (by omega)]; exact lims_int _ _ _ _ k3 hlim⟩
    · rw [List.getElem?_append_right (by omega), hxl, show k * 2 - L.length * 2 = (k - L.length) * 2 by omega]; exact cellsAt_get (by omega) k1
    · rw [List.getElem?_append_right (by omega), hxl, show k * 2 + 1 - L.length * 2 = (k - L.length) * 2 + 1 by omega]; exact cellsAt_get (by omega) k2
set_option maxRecDepth 100000 in
set_option maxHeartbeats 2000000 in
theorem grow_c (n : Nat) (w : World) (h0 : 0 < n) (hn : n ≤ 1099511627776) :
    Calls Tryz.prog 223 #[.slice none 0 0, .int .i64 (n : Nat)] w fun e w' => (∃ v, e = .returned v ∧ ∀ base, base ≤ w.heap.size → w'.ownsRow base 50 2 v 0 []) ∧ Below w.heap.size w w' := by
  obtain ⟨i0, z0, hi, hz0, hz1, hz2, hz3⟩ := elInt.info
  have hB := Below.refl w.heap.size w
  have hr := fun ty => Lib.run_append_nil_zeros w 68 3 ty 50 i0 z0 .i64 .i64 Tryz.underlying68 Tryz.underlying3 hi hz0 n h0 (by omega) (by omega) (by rw [hz2]; omega)
  have h1 : ¬ ((n : Int) < 0) := by omega
  have h2 : (0 : Int) < (n : Int) := by omega
  have hcap : n ≤ grownCap w n 0 50 := grownCap_ge _ _ _ _
  have hcm : grownCap w n 0 50 ≤ maxLen := grownCap_le_maxLen _ _ _ _ (by unfold maxLen; omega)
  obtain ⟨G, hG⟩ : ∃ G, grownCap w n 0 50 = G := ⟨_, rfl⟩
  rw [hG] at hcap hcm hr
  have HO := Lib.hid (show ∀ base, base ≤ w.heap.size → (w.drew.alloc (.cells (Builtin.zeroCells z0.cells n ++ Builtin.zeroCells z0.cells (G - n)) 50)).ownsRow base 50 2 (.slice (some ⟨w.heap.size, 0, none⟩) 0 G) 0 [] from fun base hb =>
    ⟨rfl, .inr ⟨w.heap.size, G, _, rfl, hb, (MapKept.heap_alloc w.drew _).1, Nat.zero_le _, hcm, by rw [Array.size_append, size_zeroCells, size_zeroCells, hz3, ← Nat.add_mul]; congr 1; omega, rfl⟩⟩)
  have hBa : Below w.heap.size w (w.drew.alloc (.cells (Builtin.zeroCells z0.cells n ++ Builtin.zeroCells z0.cells (G - n)) 50)) := bal (Below.refl _ _).drew _
  obtain ⟨wz, hwz⟩ : ∃ wz, (w.drew.alloc (.cells (Builtin.zeroCells z0.cells n ++ Builtin.zeroCells z0.cells (G - n)) 50)) = wz := ⟨_, rfl⟩
  rw [hwz] at HO hBa hr
  have hG0 : (0 : Int) ≤ (G : Int) := by omega
  have HR := Lib.hid hr
  clear hr hwz hG hi hz0 hz1 hz2 hz3
  go_enter Tryz.func223, Tryz.ntmps223
  go_wp2_with (at_builtin; refine Lib.wpList_append_run _ (by rfl) _ _ 68 3 rfl _ _ rfl rfl _ _ (HR.out _) ?_)
  try go_wp2
  go_ret
  exact ⟨⟨_, rfl, HO.out⟩, hBa⟩
def PSl (w : World) (u : Value) (l : List Int) : Prop := ∃ b off c, u = .slice (some ⟨b, off, none⟩) l.length c ∧ typOf w b = some 50 ∧ IntsF IsInt w b off l.length (fun k => l.getD k 0)
theorem prs_psl : Prs (fun t => t = 177 ∨ t = 50) PSl where
  one := fun ⟨b, off, c, e, _⟩ => by rw [e]; rfl
  kp := fun {w w' u x} ⟨b, off, c, e, ht, hi⟩ k => ⟨b, off, c, e, k.typ ht (.inr rfl), hi.stay lims_int (k _ _ ht (.inr rfl)) (k.lim (.inl rfl))⟩
theorem IsL.psl {w : World} {v : Value} {g : Grid} (h : IsL 68 PSl 0 w v g) {i : Nat} (hi : i < g.length) :
    ∃ c gb go rb ro rc, v = .slice (some ⟨gb, go, none⟩) g.length c ∧ w.cell? ⟨gb, go + i, none⟩ = some (.slice (some ⟨rb, ro, none⟩) (g.getD i []).length rc) ∧ IntsF IsInt w rb ro (g.getD i []).length (fun k => (g.getD i []).getD k 0) := by
  obtain ⟨a, c, e, _, hv⟩ := h.view
  obtain ⟨gb, go, u, rfl, hu, hr⟩ := hv i hi
  have e2 : g[i] = g.getD i [] := by simp [hi]
  rw [e2] at hr
  obtain ⟨rb, ro, rc, rfl, _, h3⟩ := hr
  exact ⟨c, gb, go, rb, ro, rc, e, hu, h3⟩
theorem flat_take {g : Grid} {i : Nat} (hi : i < g.length) : (g.take (i + 1)).flatten = (g.take i).flatten ++ g.getD i [] := by
  rw [take_getD [] hi, List.flatten_append]; simp
theorem flat_le (g : Grid) (i : Nat) : (g.take i).flatten.length ≤ g.flatten.length := by
  conv => rhs; rw [← List.take_append_drop i g, List.flatten_append, List.length_append]
  omega
set_option maxRecDepth 100000 in
set_option maxHeartbeats 4000000 in
theorem concat_c (v : Value) (g : Grid) (w : World) (hv : IsL 68 PSl 0 w v g) (h0 : 0 < g.flatten.length) (hn : g.flatten.length ≤ 1099511627776) (hg : g.length ≤ 1099511627776) :
    Calls Tryz.prog 159 #[v] w fun e w' => (∃ v', e = .returned v' ∧ RowO IsInt 50 w.heap.size w' v' g.flatten) ∧ Below w.heap.size w w' := by
  have HV := Lib.hid hv
  obtain ⟨va, vc, rfl, -⟩ : ∃ a c, v = .slice a g.length c ∧ True := by obtain ⟨a, c, e, _⟩ := hv.view; exact ⟨a, c, e, trivial⟩
  have HF := Lib.hid (fun i => flat_le g i)
  have hB := Below.refl w.heap.size w
  clear hv
  go_enter Tryz.func159, Tryz.ntmps159
  go_wp2
  go_loopw [3, 11] (fun s x wr => ∃ i : Nat, i ≤ g.length ∧ x = .int .i64 i ∧ s = .int .i64 ((g.take i).flatten.length : Nat) ∧ Below w.heap.size w wr) (fun _ x _ => g.length - (intOf x).toNat)
  case atStart => exact ⟨0, Nat.zero_le _, rfl, by simp, hB⟩
  case round =>
    obtain ⟨i, hi, rfl, rfl, hBr⟩ := hrel
    by_cases hlt : i < g.length
    · have hltI : (i : Int) < (g.length : Int) := by omega
      obtain ⟨c', gb, go, rb, ro, rc, e2, hu, -⟩ := (HV.out.keep prs_psl hBr).psl hlt
      obtain ⟨rfl, -, rfl⟩ := Value.slice.inj e2
      have HS := Lib.hid (flat_take hlt)
      have hS1 := HF.out (i + 1)
      rw [HS.out, List.length_append] at hS1
      obtain ⟨S, hSE⟩ : ∃ S, (g.take i).flatten.length = S := ⟨_, rfl⟩
      obtain ⟨m, hm⟩ : ∃ m, (g.getD i []).length = m := ⟨_, rfl⟩
      have HT := Lib.hid (show (g.take (i + 1)).flatten.length = S + m by rw [HS.out, List.length_append, hSE, hm])
      rw [hSE, hm] at hS1
      rw [hSE]
      rw [hm] at hu
      have hw : wrap64 ((S : Int) + (m : Int)) = (S : Int) + (m : Int) := by unfold wrap64; omega
      have hnn : ¬ ((S : Int) + (m : Int) < 0) := by omega
      have zu := cell_lt hu
      clear hSE hm e2 HS
      go_wp2
      exact ⟨⟨i + 1, by omega, by go_num, by rw [HT.out]; go_num, hBr⟩, by simp [intOf]; omega⟩
    · obtain rfl : i = g.length := by omega
      have hltI : ¬ (g.length : Int) < (g.length : Int) := by omega
      rw [List.take_length]
      obtain ⟨N, hN⟩ : ∃ N, g.flatten.length = N := ⟨_, rfl⟩
      rw [hN] at h0 hn ⊢
      have HN := Lib.hid hN
      have gc := fun W => grow_c N W h0 hn
      clear hN
      have hBw := Below.refl wr.heap.size wr
      go_wp2_with fail
      refine (gc _).mono ?_
      rintro e w2 ⟨⟨v2, rfl, ho2⟩, hb2⟩
      have hb2' := bthen hBr (bthen (by repeat (first|exact bzR _ _|exact hBw|refine bzD ?_|refine bzN ?_|refine bzS ?_|refine bzA ?_)) hb2)
      have HO2 := Lib.hid (show OwnF IsInt 50 w w2 v2 ([] : List Int).length (fun k => ([] : List Int).getD k 0) from ⟨[], ⟨ho2 _ hBr.size, hb2'⟩, fun k hk => absurd hk (by simp)⟩)
      clear ho2 gc hb2 hBw
      go_wp2
      go_loopw [6, 27] (fun v x wr => ∃ i : Nat, i ≤ g.length ∧ x = .int .i64 i ∧ Hid (OwnF IsInt 50 w wr v (g.take i).flatten.length (fun k => (g.take i).flatten.getD k 0))) (fun _ x _ => g.length - (intOf x).toNat)
      case atStart => exact ⟨0, Nat.zero_le _, rfl, HO2⟩
      case round =>
        rename World => wq
        obtain ⟨i, hi, rfl, hO⟩ := hrel
        by_cases hlt : i < g.length
        · have hltI : (i : Int) < (g.length : Int) := by omega
          have hBq := hO.out.bel
          obtain ⟨c', gb, go, rb, ro, rc, e2, hu, hI⟩ := (HV.out.keep prs_psl hBq).psl hlt
          obtain ⟨rfl, -, rfl⟩ := Value.slice.inj e2
          have hS1 := HF.out (i + 1)
          have HS := Lib.hid (flat_take hlt)
          rw [HS.out, List.length_append, HN.out] at hS1
          obtain ⟨L, hL⟩ : ∃ L, (g.take i).flatten = L := ⟨_, rfl⟩
          obtain ⟨l, hl⟩ : ∃ l, g.getD i [] = l := ⟨_, rfl⟩
          rw [hL] at hO HS hS1
          rw [hl] at HS hS1 hu hI
          have HI := Lib.hid hI
          have zu := cell_lt hu
          obtain ⟨oa, oc, hov⟩ : ∃ a c, _ = Value.slice a L.length c := by obtain ⟨a, c, h, _⟩ := hO.out.view; exact ⟨a, c, h⟩
          subst hov
          clear hL hl e2 hI
          go_wp2_with (at_builtin; refine app_cat (by rfl) (by rfl) hO.out HI.out (by rfl) (by rfl) (by omega) ?_)
          intro v' w8 HO7
          have HO8 := Lib.hid (show OwnF IsInt 50 w w8 v' (L ++ l).length (fun k => (L ++ l).getD k 0) from by rw [List.length_append]; exact HO7.out)
          rw [← HS.out] at HO8
          clear HO7
          go_wp2
          exact ⟨⟨i + 1, by omega, by go_num, HO8⟩, by simp [intOf]; omega⟩
        · obtain rfl : i = g.length := by omega
          rw [List.take_length] at hO
          have hBq := hO.out.bel
          have HR := Lib.hid (OwnF.rowO (w0 := w) hO.out)
          obtain ⟨oa, oc, hov⟩ : ∃ a c, _ = Value.slice a g.flatten.length c := by obtain ⟨a, c, h, _⟩ := hO.out.view; exact ⟨a, c, h⟩
          subst hov
          clear hO
          go_wp2
          go_ret
          exact ⟨⟨_, rfl, HR.out⟩, hBq⟩
end Go.Proofs.YtbmaffijncapiaaGreatDoor

/- Rows of fractions in memory, of any kind of fractions: four cells each; rows built by append; rows that are written. -/
namespace Go.Proofs.YtbmaffijncapiaaGreatDoor
open Num
open Go.ChangeShapes Go.WideShapes Go.ChangeAt Go.RowKit
set_option linter.unusedVariables false
set_option linter.unusedSimpArgs false
structure FrK (Q : World → Value → Rat → Prop) : Prop where
  lim : ∀ {w w' : World} {v : Value} {q : Rat}, Lim w w' → Q w v q → Q w' v q
  sh : ∀ {w : World} {v : Value} {q : Rat}, Q w v q → ∃ n1 a1 l1 c1 n2 a2 l2 c2, v = .agg #[.bool n1, .slice a1 l1 c1, .bool n2, .slice a2 l2 c2]
theorem FrK.keep {Q : World → Value → Rat → Prop} (hQ : FrK Q) {w w' : World} {v : Value} {q : Rat} (h : Q w v q) (k : Below w.heap.size w w') : Q w' v q := hQ.lim (.of_below k) h
def FrC (Q : World → Value → Rat → Prop) (w : World) (b o : Nat) (q : Rat) : Prop :=
  ∃ n1 a1 l1 c1 n2 a2 l2 c2, w.cell? ⟨b, o, none⟩ = some (.bool n1) ∧ w.cell? ⟨b, o + 1, none⟩ = some (.slice a1 l1 c1) ∧ w.cell? ⟨b, o + 2, none⟩ = some (.bool n2) ∧ w.cell? ⟨b, o + 3, none⟩ = some (.slice a2 l2 c2) ∧ Q w (.agg #[.bool n1, .slice a1 l1 c1, .bool n2, .slice a2 l2 c2]) q
section
variable {Q : World → Value → Rat → Prop} {w w' : World} {b o : Nat} {q : Rat}
theorem FrC.keep (hQ : FrK Q) (h : FrC Q w b o q) (k : Below w.heap.size w w') : FrC Q w' b o q := by
  obtain ⟨n1, a1, l1, c1, n2, a2, l2, c2, h0, h1, h2, h3, h4⟩ := h
  exact ⟨n1, a1, l1, c1, n2, a2, l2, c2, bkeep k h0, bkeep k h1, bkeep k h2, bkeep k h3, hQ.keep h4 k⟩
theorem FrC.stay (hQ : FrK Q) (h : FrC Q w b o q) (hb : w'.heap[b]? = w.heap[b]?) (hl : Lim w w') : FrC Q w' b o q := by
  obtain ⟨n1, a1, l1, c1, n2, a2, l2, c2, h0, h1, h2, h3, h4⟩ := h
  exact ⟨n1, a1, l1, c1, n2, a2, l2, c2, by rw [World.cell?_of_block (w := w) hb]; exact h0, by rw [World.cell?_of_block (w := w) hb]; exact h1, by rw [World.cell?_of_block (w := w) hb]; exact h2, by rw [World.cell?_of_block (w := w) hb]; exact h3, hQ.lim hl h4⟩
theorem FrC.limS (h : FrC Q w b o q) (u0 u1 u2 u3 : Value) : Lim w ((((w.setCell ⟨b, o, none⟩ u0).setCell ⟨b, o + 1, none⟩ u1).setCell ⟨b, o + 2, none⟩ u2).setCell ⟨b, o + 3, none⟩ u3) := by
  obtain ⟨n1, a1, l1, c1, n2, a2, l2, c2, h0, h1, h2, h3, h4⟩ := h
  exact ((((Lim.refl w).bool h0 _).slice (cell_far h1 (by simp) _) _).bool (cell_far (cell_far h2 (by simp) _) (by simp) _) _).slice (cell_far (cell_far (cell_far h3 (by simp) _) (by simp) _) (by simp) _) _
end
section
variable {Q : World → Value → Rat → Prop} {E : TypeId} {base base' : Nat} {w w' w0 wr : World} {v : Value} {L : List Rat}
end
def FrOwn (Q : World → Value → Rat → Prop) (E : TypeId) (w0 wr : World) (v : Value) (L : List Rat) : Prop :=
  ∃ xs, OwnE E 4 w0 wr v L.length xs ∧ ∀ k, k < L.length → ∃ n1 a1 l1 c1 n2 a2 l2 c2, xs[k * 4]? = some (.bool n1) ∧ xs[k * 4 + 1]? = some (.slice a1 l1 c1) ∧ xs[k * 4 + 2]? = some (.bool n2) ∧ xs[k * 4 + 3]? = some (.slice a2 l2 c2) ∧ Q wr (.agg #[.bool n1, .slice a1 l1 c1, .bool n2, .slice a2 l2 c2]) (L.getD k 0)
section
variable {Q : World → Value → Rat → Prop} {E : TypeId} {w0 wr w' : World} {v : Value} {L : List Rat}
theorem FrOwn.nil (Q : World → Value → Rat → Prop) (E : TypeId) {w0 wr : World} (hb : Below w0.heap.size w0 wr) : FrOwn Q E w0 wr (.slice none 0 0) [] := ⟨[], OwnE.nil _ _ hb, fun k hk => absurd hk (by simp)⟩
theorem FrOwn.ex (h : FrOwn Q E w0 wr v L) : ∃ a c, v = .slice a L.length c := by obtain ⟨xs, h1, _⟩ := h; exact h1.ex
theorem FrOwn.bel (h : FrOwn Q E w0 wr v L) : Below w0.heap.size w0 wr := by obtain ⟨xs, h1, _⟩ := h; exact h1.2
theorem FrOwn.below (hQ : FrK Q) (h : FrOwn Q E w0 wr v L) (k : Below wr.heap.size wr w') : FrOwn Q E w0 w' v L := by
  obtain ⟨xs, h1, h2⟩ := h
  refine ⟨xs, h1.below k, fun j hj => ?_⟩
  obtain ⟨n1, a1, l1, c1, n2, a2, l2, c2, e0, e1, e2, e3, e4⟩ := h2 j hj
  exact ⟨n1, a1, l1, c1, n2, a2, l2, c2, e0, e1, e2, e3, hQ.keep e4 k⟩
theorem FrOwn.view (h : FrOwn Q E w0 wr v L) : ∃ a c, v = .slice a L.length c ∧ L.length ≤ c ∧ (L.length = 0 ∨ ∃ g, a = some ⟨g, 0, none⟩ ∧ w0.heap.size ≤ g ∧ Free wr g ∧ typOf wr g = some E ∧ ∀ k, k < L.length → FrC Q wr g (k * 4) (L.getD k 0)) := by
  obtain ⟨xs, ⟨⟨hl, h1⟩, _⟩, h2⟩ := h
  rcases h1 with ⟨rfl, h0⟩ | ⟨g, cap, cur, rfl, hg, hh, hc, hm, hs, ht⟩
  · exact ⟨none, 0, by rw [h0], by omega, .inl h0⟩
  · have hgt : typOf wr g = some E := by unfold typOf; rw [hh]
    refine ⟨_, cap, rfl, hc, .inr ⟨g, rfl, hg, ⟨typ_lt hgt, fun j => ?_⟩, hgt, fun k hk => ?_⟩⟩
    · simp [World.frozen?, hh]
    · obtain ⟨n1, a1, l1, c1, n2, a2, l2, c2, e0, e1, e2, e3, e4⟩ := h2 k hk
      have cel : ∀ j u, xs[j]? = some u → wr.cell? ⟨g, j, none⟩ = some u := fun j u hj => by
        have hj2 : j < L.length * 4 := by have := (List.getElem?_eq_some_iff.1 hj).1; omega
        rw [← ht, List.getElem?_take_of_lt (by omega)] at hj
        simpa [World.cell?, hh] using hj
      exact ⟨n1, a1, l1, c1, n2, a2, l2, c2, cel _ _ e0, cel _ _ e1, cel _ _ e2, cel _ _ e3, e4⟩
theorem frOwn_snoc (hQ : FrK Q) {xs : List Value} {v' : Value} {n1 n2 : Bool} {a1 a2 : Option Addr} {l1 c1 l2 c2 : Nat} {q : Rat}
    (h2 : ∀ k, k < L.length → ∃ n1 a1 l1 c1 n2 a2 l2 c2, xs[k * 4]? = some (.bool n1) ∧ xs[k * 4 + 1]? = some (.slice a1 l1 c1) ∧ xs[k * 4 + 2]? = some (.bool n2) ∧ xs[k * 4 + 3]? = some (.slice a2 l2 c2) ∧ Q wr (.agg #[.bool n1, .slice a1 l1 c1, .bool n2, .slice a2 l2 c2]) (L.getD k 0)) (hl : xs.length = L.length * 4)
    (hv : Q wr (.agg #[.bool n1, .slice a1 l1 c1, .bool n2, .slice a2 l2 c2]) q) (hlim : Lim wr w') (hO : OwnE E 4 w0 w' v' (L.length + 1) (xs ++ [.bool n1, .slice a1 l1 c1, .bool n2, .slice a2 l2 c2])) : FrOwn Q E w0 w' v' (L ++ [q]) := by
  refine ⟨_, by rw [List.length_append]; exact hO, fun k hk => ?_⟩
  by_cases e : k < L.length
  · obtain ⟨m1, b1, x1, d1, m2, b2, x2, d2, e0, e1, e2, e3, e4⟩ := h2 k e
    refine ⟨m1, b1, x1, d1, m2, b2, x2, d2, ?_, ?_, ?_, ?_, ?_⟩
    · rw [List.getElem?_append_left (by omega)]; exact e0
    · rw [List.getElem?_append_left (by omega)]; exact e1
    · rw [List.getElem?_append_left (by omega)]; exact e2
    · rw [List.getElem?_append_left (by omega)]; exact e3
    · rw [List.getD_eq_getElem?_getD, List.getElem?_append_left e, ← List.getD_eq_getElem?_getD]; exact hQ.lim hlim e4
  · obtain rfl : k = L.length := by simp at hk; omega
    refine ⟨n1, a1, l1, c1, n2, a2, l2, c2, ?_, ?_, ?_, ?_, ?_⟩
    · rw [List.getElem?_append_right (by omega), hl]; simp
    · rw [List.getElem?_append_right (by omega), hl]; simp
    · rw [List.getElem?_append_right (by omega), hl]; simp
    · rw [List.getElem?_append_right (by omega), hl]; simp
    · rw [List.getD_eq_getElem?_getD, List.getElem?_append_right (Nat.le_refl _)]; simpa using hQ.lim hlim hv
end
section
variable {P : Program} {T E : TypeId} {bytes : Nat} {Q : World → Value → Rat → Prop} {ops : Array Oper} {o : Oper} {a : Act} {Z : Exit → Act → World → Prop} {w0 wr : World} {v : Value} {L : List Rat} {t : TypeId} {s x : Operand} {n1 n2 : Bool} {a1 a2 : Option Addr} {l1 c1 l2 c2 cc : Nat} {q : Rat}
theorem app_q {rest : List Oper} (el : Elt P T E 4 bytes) (hE : E ≠ 177) (hQ : FrK Q) (hgd : o.guard = none)
    (ho : o.op = .call { callee := .builtin .append, args := #[s, x], argTypes := #[T, T] }) (hO : FrOwn Q E w0 wr v L) (hv : Q wr (.agg #[.bool n1, .slice a1 l1 c1, .bool n2, .slice a2 l2 c2]) q) (hs : a.eval s = v)
    (hx : a.eval x = .slice (some ⟨wr.heap.size, 0, none⟩) 1 cc) (hn : L.length + 1 ≤ 1099511627776)
    (h : ∀ v' w', FrOwn Q E w0 w' v' (L ++ [q]) → Lim wr w' → Out (fun k => v.ownBlock = some k) wr w' → wpList P ops Z rest (a.put o.dst v') w') : wpList P ops Z (o :: rest) a (wr.alloc (.cells #[.bool n1, .slice a1 l1 c1, .bool n2, .slice a2 l2 c2] t)) := by
  obtain ⟨i, z0, hi, hz, hsize, hby, hzs⟩ := el.info
  obtain ⟨xs, h1, h2⟩ := hO
  have hb : (L.length + 1) * bytes ≤ 1099511627776 * 128 := Nat.mul_le_mul hn el.small
  refine wpList_append_own _ hgd s x T ho w0.heap.size E i z0 4 bytes el.ht hi hz hsize hby hzs el.pos v L.length xs hs (h1.1.alloc _) ⟨wr.heap.size, 0, none⟩ 1 cc [.bool n1, .slice a1 l1 c1, .bool n2, .slice a2 l2 c2] hx rfl (cells_new wr _ t) (fun u hu => by simp at hu; rcases hu with rfl | rfl | rfl | rfl <;> rfl) (by unfold maxLen; omega) (by omega) (by have := h1.2.size; simp; omega) ?_
  intro v' w' hown hg _
  have hl : Lim wr w' := ((Lim.refl wr).alloc _).grown hg fun g hg' ht => hE (by
    rw [typ_keep (own_typ h1 hg') (bal (Below.refl _ _) _)] at ht
    exact Option.some.inj ht)
  exact h v' w' (frOwn_snoc hQ h2 h1.1.1 hv hl ⟨hown, below_append (wr := wr) (bal h1.2 _) (h1.1.alloc _) hg⟩) hl (((Out.refl _ wr).alloc _).grown hg fun k hk _ => hk)
end
structure FrBlk (Q : World → Value → Rat → Prop) (E : TypeId) (w : World) (b n : Nat) (F : Nat → Rat) : Prop where
  ty : typOf w b = some E
  fr : Free w b
  at_ : ∀ k, k < n → FrC Q w b (k * 4) (F k)
section
variable {Q : World → Value → Rat → Prop} {E : TypeId} {w w' : World} {b n : Nat} {F G : Nat → Rat}
theorem FrBlk.congr (h : FrBlk Q E w b n F) (e : ∀ k, k < n → F k = G k) : FrBlk Q E w b n G := ⟨h.ty, h.fr, fun k hk => by rw [← e k hk]; exact h.at_ k hk⟩
theorem FrBlk.keep (hQ : FrK Q) (h : FrBlk Q E w b n F) (k : Below w.heap.size w w') : FrBlk Q E w' b n F := ⟨typ_keep h.ty k, h.fr.keep k, fun j hj => (h.at_ j hj).keep hQ k⟩
theorem FrBlk.out {X : Nat → Prop} (hQ : FrK Q) (h : FrBlk Q E w b n F) (ho : Out X w w') (hx : ¬ X b) (hl : Lim w w') : FrBlk Q E w' b n F :=
  ⟨by rw [typ_of_block (w := w) (ho.block b (typ_lt h.ty) hx)]; exact h.ty, h.fr.out ho hx, fun j hj => (h.at_ j hj).stay hQ (ho.block b (typ_lt h.ty) hx) hl⟩
theorem FrBlk.put (hQ : FrK Q) (h : FrBlk Q E w b n F) {k : Nat} (hk : k < n) {n1 n2 : Bool} {a1 a2 : Option Addr} {l1 c1 l2 c2 : Nat} {q : Rat} (hv : Q w (.agg #[.bool n1, .slice a1 l1 c1, .bool n2, .slice a2 l2 c2]) q) :
    FrBlk Q E ((((w.setCell ⟨b, k * 4, none⟩ (.bool n1)).setCell ⟨b, k * 4 + 1, none⟩ (.slice a1 l1 c1)).setCell ⟨b, k * 4 + 2, none⟩ (.bool n2)).setCell ⟨b, k * 4 + 3, none⟩ (.slice a2 l2 c2)) b n (fun i => if i = k then q else F i) := by
  have hl := (h.at_ k hk).limS (.bool n1) (.slice a1 l1 c1) (.bool n2) (.slice a2 l2 c2)
  refine ⟨by rw [typ_set, typ_set, typ_set, typ_set]; exact h.ty, (((h.fr.set _ _).set _ _).set _ _).set _ _, fun i hi => ?_⟩
  by_cases e : i = k
  · subst e
    obtain ⟨m1, b1, x1, d1, m2, b2, x2, d2, e0, e1, e2, e3, e4⟩ := h.at_ i hi
    refine ⟨n1, a1, l1, c1, n2, a2, l2, c2, cell_far (cell_far (cell_far (cell_here e0 _) (by simp) _) (by simp) _) (by simp) _, cell_far (cell_far (cell_here (cell_far e1 (by simp) _) _) (by simp) _) (by simp) _, cell_far (cell_here (cell_far (cell_far e2 (by simp) _) (by simp) _) _) (by simp) _, cell_here (cell_far (cell_far (cell_far e3 (by simp) _) (by simp) _) (by simp) _) _, ?_⟩
    rw [if_pos rfl]; exact hQ.lim hl hv
  · obtain ⟨m1, b1, x1, d1, m2, b2, x2, d2, e0, e1, e2, e3, e4⟩ := h.at_ i hi
    have fa : ∀ {o : Nat} {u : Value} (r : Nat), r < 4 → o = i * 4 + r → w.cell? ⟨b, o, none⟩ = some u → ((((w.setCell ⟨b, k * 4, none⟩ (.bool n1)).setCell ⟨b, k * 4 + 1, none⟩ (.slice a1 l1 c1)).setCell ⟨b, k * 4 + 2, none⟩ (.bool n2)).setCell ⟨b, k * 4 + 3, none⟩ (.slice a2 l2 c2)).cell? ⟨b, o, none⟩ = some u := fun r hr ho h => by
      subst ho
      exact cell_far (cell_far (cell_far (cell_far h (by simp <;> omega) _) (by simp <;> omega) _) (by simp <;> omega) _) (by simp <;> omega) _
    refine ⟨m1, b1, x1, d1, m2, b2, x2, d2, fa 0 (by omega) rfl e0, fa 1 (by omega) rfl e1, fa 2 (by omega) rfl e2, fa 3 (by omega) rfl e3, ?_⟩
    rw [if_neg e]; exact hQ.lim hl e4
theorem FrBlk.far (hQ : FrK Q) (h : FrBlk Q E w b n F) {g o : Nat} {q : Rat} (hg : g ≠ b) (hc : FrC Q w g o q) (u0 u1 u2 u3 : Value) :
    FrBlk Q E ((((w.setCell ⟨g, o, none⟩ u0).setCell ⟨g, o + 1, none⟩ u1).setCell ⟨g, o + 2, none⟩ u2).setCell ⟨g, o + 3, none⟩ u3) b n F := by
  have hl := hc.limS u0 u1 u2 u3
  refine ⟨by rw [typ_set, typ_set, typ_set, typ_set]; exact h.ty, (((h.fr.set _ _).set _ _).set _ _).set _ _, fun i hi => ?_⟩
  obtain ⟨m1, b1, x1, d1, m2, b2, x2, d2, e0, e1, e2, e3, e4⟩ := h.at_ i hi
  have fa : ∀ {o' : Nat} {u : Value}, w.cell? ⟨b, o', none⟩ = some u → ((((w.setCell ⟨g, o, none⟩ u0).setCell ⟨g, o + 1, none⟩ u1).setCell ⟨g, o + 2, none⟩ u2).setCell ⟨g, o + 3, none⟩ u3).cell? ⟨b, o', none⟩ = some u := fun h => cell_far (cell_far (cell_far (cell_far h (addr_ne hg) _) (addr_ne hg) _) (addr_ne hg) _) (addr_ne hg) _
  exact ⟨m1, b1, x1, d1, m2, b2, x2, d2, fa e0, fa e1, fa e2, fa e3, hQ.lim hl e4⟩
end
end Go.Proofs.YtbmaffijncapiaaGreatDoor

/- The reference's fractions, and the program's, as they lie in memory. -/
namespace Go.Proofs.YtbmaffijncapiaaGreatDoor
open Num
open Go.ChangeShapes Go.WideShapes Go.ChangeAt Go.RowKit
set_option linter.unusedVariables false
set_option linter.unusedSimpArgs false
def IsQR (w : World) (v : Value) (q : Rat) : Prop := ∃ n1 a1 l1 c1 n2 a2 l2 c2, v = .agg #[.bool n1, .slice a1 l1 c1, .bool n2, .slice a2 l2 c2] ∧ IsRef w (.agg #[.bool n1, .slice a1 l1 c1]) q.num ∧ IsRef w (.agg #[.bool n2, .slice a2 l2 c2]) (q.den : Int)
theorem IsRef.limQ {w w' : World} {v : Value} {z : Int} (h : IsRef w v z) (k : Lim w w') : IsRef w' v z := lims_ref _ _ _ _ h k
theorem frk_ref : FrK IsQR := ⟨fun k h => by
  obtain ⟨n1, a1, l1, c1, n2, a2, l2, c2, e, h1, h2⟩ := h
  exact ⟨n1, a1, l1, c1, n2, a2, l2, c2, e, h1.limQ k, h2.limQ k⟩, fun h => by
  obtain ⟨n1, a1, l1, c1, n2, a2, l2, c2, e, h1, h2⟩ := h
  exact ⟨n1, a1, l1, c1, n2, a2, l2, c2, e⟩⟩
theorem IsQR.keep {w w' : World} {v : Value} {q : Rat} (h : IsQR w v q) (k : Below w.heap.size w w') : IsQR w' v q := frk_ref.keep h k
theorem lim_put4 {w : World} {b o : Nat} {n1 n2 : Bool} {a1 a2 : Option Addr} {l1 c1 l2 c2 : Nat} (h0 : w.cell? ⟨b, o, none⟩ = some (.bool n1)) (h1 : w.cell? ⟨b, o + 1, none⟩ = some (.slice a1 l1 c1)) (h2 : w.cell? ⟨b, o + 2, none⟩ = some (.bool n2)) (h3 : w.cell? ⟨b, o + 3, none⟩ = some (.slice a2 l2 c2)) (u0 u1 u2 u3 : Value) :
    Lim w ((((w.setCell ⟨b, o, none⟩ u0).setCell ⟨b, o + 1, none⟩ u1).setCell ⟨b, o + 2, none⟩ u2).setCell ⟨b, o + 3, none⟩ u3) :=
  ((((Lim.refl w).bool h0 _).slice (cell_far h1 (by simp) _) _).bool (cell_far (cell_far h2 (by simp) _) (by simp) _) _).slice (cell_far (cell_far (cell_far h3 (by simp) _) (by simp) _) (by simp) _) _
end Go.Proofs.YtbmaffijncapiaaGreatDoor

