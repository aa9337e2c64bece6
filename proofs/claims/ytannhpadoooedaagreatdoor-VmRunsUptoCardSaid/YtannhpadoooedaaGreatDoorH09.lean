/- Texts of this seat, laid together: Wr, VwT. Each opens with its own remark, which says what it proves, and under which conditions. -/
import Derived.Test.YtannhpadoooedaaGreatDoorG12
import Derived.Laws.AppendOwn
import Derived.Laws.Rows
import Derived.Laws.Tables
import Derived.Test.YtannhpadoooedaaGreatDoorG39
import Derived.Test.YtannhpadoooedaaGreatDoorH08
set_option linter.unusedVariables false
set_option linter.unusedSimpArgs false
/- Rows of numbers that may be written: blocks keep their type and size; a store, an append of one number to a row whose block may be another's too. -/
namespace Go.Proofs.YtannhpadoooedaaGreatDoor
open Num
open Go.ChangeShapes Go.WideShapes Go.ChangeAt Go.RowKit
set_option linter.unusedVariables false
set_option linter.unusedSimpArgs false
/-- every block of cells keeps its type and its size -/
def Shp (w w' : World) : Prop := ∀ (k : Nat) (cs : Array Value) (t : TypeId), w.heap[k]? = some (Obj.cells cs t (0, 0)) → ∃ cs' : Array Value, w'.heap[k]? = some (Obj.cells cs' t (0, 0)) ∧ cs'.size = cs.size
section
variable {a b c w w' : World}
theorem Shp.refl (w : World) : Shp w w := fun _ cs _ h => ⟨cs, h, rfl⟩
theorem Shp.trans (h : Shp a b) (k : Shp b c) : Shp a c := fun q cs t hq => by
  obtain ⟨c1, h1, e1⟩ := h q cs t hq
  obtain ⟨c2, h2, e2⟩ := k q c1 t h1
  exact ⟨c2, h2, e2.trans e1⟩
theorem Shp.of_below (h : Below a.heap.size a b) : Shp a b := fun q cs t hq => ⟨cs, by rw [h.block q (Array.getElem?_eq_some_iff.1 hq).1]; exact hq, rfl⟩
theorem Shp.below (h : Shp a b) (k : Below b.heap.size b c) : Shp a c := h.trans (.of_below k)
theorem Shp.set (h : Shp a b) (p : Addr) (v : Value) : Shp a (b.setCell p v) := h.trans fun q cs t hq => by
  by_cases e : q = p.block
  · subst e
    refine ⟨if p.spot.isSome then cs else cs.setIfInBounds p.off v, ?_, ?_⟩
    · simp only [World.setCell, Array.getElem?_modify, if_true, hq, Option.map_some]
    · split <;> simp
  · exact ⟨cs, by rw [Below.heap_setCell _ _ _ _ e]; exact hq, rfl⟩
end
/-- a row of numbers that may be written up to its capacity, whatever stands in it -/
def WRow (base : Nat) (w : World) (v : Value) (m : Nat) : Prop :=
  (v = .slice none 0 0 ∧ m = 0) ∨ ∃ g cap cs, v = .slice (some ⟨g, 0, none⟩) m cap ∧ base ≤ g ∧ w.heap[g]? = some (.cells cs 48 (0, 0)) ∧ m ≤ cap ∧ cap ≤ maxLen ∧ cs.size = cap * 2
section
variable {base : Nat} {w w' : World} {v : Value} {m : Nat}
theorem WRow.shp (h : WRow base w v m) (k : Shp w w') : WRow base w' v m := by
  rcases h with h | ⟨g, cap, cs, rfl, hg, hh, h1, h2, h3⟩
  · exact .inl h
  · obtain ⟨cs', hh', e⟩ := k g cs _ hh
    exact .inr ⟨g, cap, cs', rfl, hg, hh', h1, h2, e.trans h3⟩
theorem RowO.wrow {R : World → Value → Int → Prop} {l : List Int} (h : RowO R 48 base w v l) : WRow base w v l.length := by
  obtain ⟨xs, ⟨_, h1⟩, _⟩ := h
  rcases h1 with h1 | ⟨g, cap, cur, hv, hg, hh, hc, hm, hs, _⟩
  · exact .inl h1
  · exact .inr ⟨g, cap, cur, hv, hg, hh, hc, hm, hs⟩
theorem WRow.ex (h : WRow base w v m) : ∃ a c, v = .slice a m c := by
  rcases h with ⟨rfl, rfl⟩ | ⟨g, cap, cs, rfl, _⟩
  · exact ⟨none, 0, rfl⟩
  · exact ⟨_, _, rfl⟩
/-- the cells of such a row: they are there, and may be written -/
theorem WRow.at (h : WRow base w v m) {k : Nat} (hk : k < m) : ∃ g cap x y, v = .slice (some ⟨g, 0, none⟩) m cap ∧ base ≤ g ∧ w.cell? ⟨g, k * 2, none⟩ = some x ∧ w.cell? ⟨g, k * 2 + 1, none⟩ = some y ∧ w.frozen? ⟨g, k * 2, none⟩ = false ∧ w.frozen? ⟨g, k * 2 + 1, none⟩ = false := by
  rcases h with ⟨rfl, rfl⟩ | ⟨g, cap, cs, rfl, hg, hh, h1, h2, h3⟩
  · omega
  · refine ⟨g, cap, cs[k * 2]'(by omega), cs[k * 2 + 1]'(by omega), rfl, hg, ?_, ?_, ?_, ?_⟩
    · simp [World.cell?, hh]
    · simp [World.cell?, hh]
    · simp [World.frozen?, hh]
    · simp [World.frozen?, hh]
end
section
variable {ops : Array Oper} {o : Oper} {a : Act} {Q : Exit → Act → World → Prop} {w : World} {s x : Operand} {base : Nat} {v : Value} {m : Nat}
/-- append of one number to such a row -/
theorem app_wr {rest : List Oper} (hgd : o.guard = none) (ho : o.op = .call { callee := .builtin .append, args := #[s, x], argTypes := #[29, 29] })
    (hv : WRow base w v m) (hs : a.eval s = v) (hm : m ≤ 1099511627776) {gb cc : Nat} {y z : Value} (hx : a.eval x = .slice (some ⟨gb, 0, none⟩) 1 cc) (hy : w.cell? ⟨gb, 0, none⟩ = some y) (hz : w.cell? ⟨gb, 1, none⟩ = some z) (oy : y.oneCell' = true) (oz : z.oneCell' = true)
    (h : ∀ v' w', Shp w w' → (∀ B, B ≤ base → B ≤ w.heap.size → Below B w w') → Kp (· ≠ 48) w w' → wpList Tryz.prog ops Q rest (a.put o.dst v') w') : wpList Tryz.prog ops Q (o :: rest) a w := by
  obtain ⟨i0, z0, hi, hz0, hz1, hz2, hz3⟩ := elInt.info
  have hl : ([y, z] : List Value).length = 1 * i0.size := by rw [hz1]; rfl
  have hnews : ∀ j u, ([y, z] : List Value)[j]? = some u → w.cell? ((⟨gb, 0, none⟩ : Addr).add j) = some u := by
    intro j u hj
    have hj2 : j < 2 := (List.getElem?_eq_some_iff.1 hj).1
    have hj3 : j = 0 ∨ j = 1 := by omega
    rcases hj3 with rfl | rfl
    · simp at hj; subst hj; simpa [Addr.add] using hy
    · simp at hj; subst hj; simpa [Addr.add] using hz
  have key : ∃ v' w', (Builtin.append_ #[29, 29] o.type #[v, .slice (some ⟨gb, 0, none⟩) 1 cc]).run Tryz.prog w = .ok v' w' ∧ Shp w w' ∧ (∀ B, B ≤ base → B ≤ w.heap.size → Below B w w') ∧ Kp (· ≠ 48) w w' := by
    rcases hv with ⟨rfl, rfl⟩ | ⟨g, cap, cs, rfl, hg, hh, h1, h2, h3⟩
    · refine ⟨_, _, run_append_nil w _ _ _ i0 z0 Tryz.underlying29 hi hz0 ⟨gb, 0, none⟩ 1 cc [y, z] hl hnews (by omega) (by omega) (by rw [hz2]; omega), ?_, fun B hB hB2 => ?_, ?_⟩
      · exact Shp.of_below (bal (Below.refl _ _).drew _)
      · exact Below.mono (bal (Below.refl w.heap.size w).drew _) hB2
      · exact Kp.of_below _ (bal (Below.refl w.heap.size w).drew _)
    · by_cases hroom : m + 1 ≤ cap
      · refine ⟨_, _, run_append_room w _ _ _ i0 Tryz.underlying29 hi g m cap cs hh ⟨gb, 0, none⟩ 1 cc [y, z] hl hnews (fun u hu => by simp at hu; rcases hu with rfl | rfl <;> assumption) hroom (by rw [hz1, h3]; simp; omega), ?_, fun B hB hB2 => ?_, ?_⟩
        · intro q cs' t hq
          by_cases e : q = g
          · subst e
            rw [hh] at hq; cases hq
            refine ⟨_, setRow_heap w q cs _ _ _ hh, ?_⟩
            simp only [List.size_toArray, List.length_append, List.length_take, List.length_drop, Array.length_toList, List.length_cons, List.length_nil]
            rw [hz1, h3]; omega
          · exact ⟨cs', by rw [setRow_other w g q _ e]; exact hq, rfl⟩
        · exact ⟨rfl, rfl, rfl, by simp [World.setRow], fun k hk => setRow_other w g k _ (by omega)⟩
        · intro q t ht hne
          refine setRow_other w g q _ (fun e => ?_)
          subst e
          unfold typOf at ht
          rw [hh] at ht
          exact hne (Option.some.inj ht).symm
      · have holds : ∀ j u, (cs.toList.take (m * 2))[j]? = some u → w.cell? ((⟨g, 0, none⟩ : Addr).add j) = some u := by
          intro j u hj
          have hj2 : j < m * 2 := by have := (List.getElem?_eq_some_iff.1 hj).1; rw [List.length_take] at this; omega
          rw [List.getElem?_take_of_lt hj2] at hj
          have e : (⟨g, 0, none⟩ : Addr).add j = ⟨g, j, none⟩ := by unfold Addr.add; split <;> simp_all
          rw [e, cell_of_row w g j cs _ _ hh]
          simpa using hj
        refine ⟨_, _, run_append_grow w _ _ _ i0 z0 Tryz.underlying29 hi hz0 ⟨g, 0, none⟩ m cap (cs.toList.take (m * 2)) (by rw [List.length_take, Array.length_toList, h3, hz1]; omega) holds ⟨gb, 0, none⟩ 1 cc [y, z] hl hnews (by omega) (by omega) (by rw [hz2]; exact growslice_fits (by omega) (by omega)), ?_, fun B hB hB2 => ?_, ?_⟩
        · exact Shp.of_below (bal (Below.refl _ _).drew _)
        · exact Below.mono (bal (Below.refl w.heap.size w).drew _) hB2
        · exact Kp.of_below _ (bal (Below.refl w.heap.size w).drew _)
  obtain ⟨v', w', hr, hS, hB, hK'⟩ := key
  refine wpList_plain hgd fun K hK => ?_
  unfold Oper.wp execOp
  simp only [ho, resolve, invoke, builtin, Sem.run_bind, Sem.run_pure, Result.andThen_ok, List.map_toArray, List.map_cons, List.map_nil, hs, hx, hr]
  exact hK _ _ (h v' w' hS hB hK')
end
end Go.Proofs.YtannhpadoooedaaGreatDoor
/- vm's laws: what both Runs answer, held against each other. -/
namespace Go.Proofs.YtannhpadoooedaaGreatDoor
open Num
open Go.ChangeShapes Go.WideShapes Go.ChangeAt Go.RowKit
set_option linter.unusedVariables false
set_option linter.unusedSimpArgs false
theorem InsV.none {w : World} {a : Option Addr} {c : Nat} {L : List Ins} (h : InsV w a c L) : a = none → L = [] := fun e => by
  rcases h with h | ⟨b, off, h, _⟩
  · exact h
  · rw [e] at h; cases h
theorem IntsV.none {w : World} {a : Option Addr} {c : Nat} {L : List Int} (h : IntsV w a c L) : a = none → L = [] := fun e => by
  rcases h with h | ⟨b, off, h, _⟩
  · exact h
  · rw [e] at h; cases h
/-- what the reference's Run's results say -/
def RRunRes (ins regs : Int) (code : List Ins) (outs : List Int) (g : Grid) (w' : World) (ov : Value) (n : Nat) (s : Int) : Prop :=
  (¬ ProgOk ins regs code outs ∧ ov = .slice none 0 0 ∧ n = 0 ∧ s = 80) ∨
  (ProgOk ins regs code outs ∧ ¬ FitsG ins g ∧ ov = .slice none 0 0 ∧ n = 0 ∧ s = 5) ∨
  (ProgOk ins regs code outs ∧ FitsG ins g ∧ n < code.length ∧ (∃ h, after code (startG g regs.toNat (g.getD 0 []).length) n = some h) ∧ after code (startG g regs.toNat (g.getD 0 []).length) (n + 1) = none ∧ ov = .slice none 0 0 ∧ s = 20) ∨
  (ProgOk ins regs code outs ∧ FitsG ins g ∧ n = code.length ∧ s = 0 ∧ ∃ h, after code (startG g regs.toNat (g.getD 0 []).length) code.length = some h ∧ IsL 89 (RRow 0) 0 w' ov (outsG outs h))
theorem rrunRes {ins regs : Int} {code : List Ins} {outs : List Int} {g : Grid} {w : World} {e : Ending} {w' : World} (h : RRunPost ins regs code outs g w e w') : (∃ a len cp n s, e = .returned (.tuple #[.slice a len cp, .int .i64 ((n : Nat) : Int), .int .i64 s]) ∧ RRunRes ins regs code outs g w' (.slice a len cp) n s) ∧ Below w.heap.size w w' := by
  obtain ⟨h, hB⟩ := h
  refine ⟨?_, hB⟩
  rcases h with ⟨h1, rfl⟩ | ⟨h1, h2, rfl⟩ | ⟨h1, h2, k, h, h3, h4, h5, rfl⟩ | ⟨h1, h2, h, v, h3, rfl, h4⟩
  · exact ⟨_, _, _, 0, _, rfl, .inl ⟨h1, rfl, rfl, rfl⟩⟩
  · exact ⟨_, _, _, 0, _, rfl, .inr (.inl ⟨h1, h2, rfl, rfl, rfl⟩)⟩
  · exact ⟨_, _, _, k, _, rfl, .inr (.inr (.inl ⟨h1, h2, h3, ⟨h, h4⟩, h5, rfl, rfl⟩))⟩
  · obtain ⟨a, c, rfl⟩ := h4.ex
    exact ⟨_, _, _, _, _, rfl, .inr (.inr (.inr ⟨h1, h2, rfl, rfl, h, h3, h4.isL.rebase (Nat.zero_le _)⟩))⟩
/-- two places of a row of instructions at which the first failure lies are one -/
theorem after_uniq {code : List Ins} {G : Grid} {n m : Nat} (h1 : ∃ h, after code G n = some h) (h2 : after code G (n + 1) = none) (k1 : ∃ h, after code G m = some h) (k2 : after code G (m + 1) = none) : n = m := by
  obtain ⟨h, h1⟩ := h1
  obtain ⟨k, k1⟩ := k1
  rcases Nat.lt_trichotomy n m with e | e | e
  · rw [after_mono h2 (show n + 1 ≤ m by omega)] at k1; cases k1
  · exact e
  · rw [after_mono k2 (show m + 1 ≤ n by omega)] at h1; cases h1
/-- both Runs' answers are one -/
theorem runs_one {ins regs : Int} {code : List Ins} {outs : List Int} {g : Grid} {base K : Nat} {w w2 : World} {ov rv : Value} {n m : Nat} {s t : Int} (hK : BdG K g) (h : RunRes ins regs code outs g base w ov n s) (k : RRunRes ins regs code outs g w2 rv m t) :
    n = m ∧ s = t ∧ ∃ og : Grid, IsL 29 (RowW base) base w ov og ∧ IsL 89 (RRow 0) 0 w2 rv og ∧ BdG (K + 65 * code.length) og ∧ og.length ≤ 128 ∧ ∀ j (hj : j < og.length), og[j].length ≤ 4096 := by
  have nil : ∀ {P : Prop}, P → ∃ og : Grid, IsL 29 (RowW base) base w (.slice none 0 0) og ∧ IsL 89 (RRow 0) 0 w2 (.slice none 0 0) og ∧ BdG (K + 65 * code.length) og ∧ og.length ≤ 128 ∧ ∀ j (hj : j < og.length), og[j].length ≤ 4096 := fun _ =>
    ⟨[], IsL.nil _ _ _ _, IsL.nil _ _ _ _, fun i j => by simp [bd_zero], by simp, fun j hj => by simp at hj⟩
  rcases h with ⟨h1, rfl, rfl, rfl⟩ | ⟨h1, h2, rfl, rfl, rfl⟩ | ⟨h1, h2, h3, h4, h5, rfl, rfl⟩ | ⟨h1, h2, rfl, rfl, x, h5, h6⟩
  · rcases k with ⟨k1, rfl, rfl, rfl⟩ | ⟨k1, _⟩ | ⟨k1, _⟩ | ⟨k1, _⟩
    · exact ⟨rfl, rfl, nil trivial⟩
    all_goals exact absurd k1 h1
  · rcases k with ⟨k1, _⟩ | ⟨k1, k2, rfl, rfl, rfl⟩ | ⟨k1, k2, _⟩ | ⟨k1, k2, _⟩
    · exact absurd h1 k1
    · exact ⟨rfl, rfl, nil trivial⟩
    all_goals exact absurd k2 h2
  · rcases k with ⟨k1, _⟩ | ⟨k1, k2, _⟩ | ⟨k1, k2, k3, k4, k5, rfl, rfl⟩ | ⟨k1, k2, rfl, rfl, y, k5, k6⟩
    · exact absurd h1 k1
    · exact absurd h2 k2
    · exact ⟨after_uniq h4 h5 k4 k5, rfl, nil trivial⟩
    · rw [after_mono h5 (by omega)] at k5; cases k5
  · rcases k with ⟨k1, _⟩ | ⟨k1, k2, _⟩ | ⟨k1, k2, k3, k4, k5, rfl, rfl⟩ | ⟨k1, k2, rfl, rfl, y, k5, k6⟩
    · exact absurd h1 k1
    · exact absurd h2 k2
    · rw [after_mono k5 (by omega)] at h5; cases h5
    · rw [h5] at k5
      cases k5
      have hg0 : g.length ≤ regs.toNat := by have := h2.len; have := h1.i2; omega
      have hL := startG_len (n := (g.getD 0 []).length) hg0
      have hR := startG_rect (regs := regs.toNat) h2.rect
      have hr := after_rect hR hL (fun q hq => by have := (ins_of h1 hq).a1; have := (ins_of h1 hq).a0; omega) (Nat.le_refl _) h5
      have hl := (after_len h5).trans hL
      refine ⟨rfl, rfl, outsG outs x, h6, k6, outsG_bd (after_bd (startG_bd hK) (cs_of h1) (Nat.le_refl _) h5) outs, by have := h1.o2; simpa [outsG] using this, fun j hj => ?_⟩
      rw [outsG_len hr (fun q hq => by obtain ⟨a, b⟩ := h1.os q hq; have := h1.i1; have := h1.i2; omega) j hj]
      exact h2.m
end Go.Proofs.YtannhpadoooedaaGreatDoor
