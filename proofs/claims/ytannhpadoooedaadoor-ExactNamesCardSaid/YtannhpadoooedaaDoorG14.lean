/- Texts of this seat, laid together: PrgC, NumS. Each opens with its own remark, which says what it proves, and under which conditions. -/
import Derived.Test.YtannhpadoooedaaDoorG13
import Derived.Test.YtannhpadoooedaaDoorG02
import Derived.Test.YtannhpadoooedaaDoorG04
/- prog: Check. -/
namespace Go.Proofs.YtannhpadoooedaaDoor
open Go.ChangeShapes Go.WideShapes Go.ChangeAt Go.RowKit
set_option linter.unusedVariables false
set_option linter.unusedSimpArgs false
/-- a list of ints in memory -/
def IntsV (w : World) (a : Option Addr) (cap : Nat) (L : List Int) : Prop := L = [] ∨ ∃ b off, a = some ⟨b, off, none⟩ ∧ L.length ≤ cap ∧ ∀ k, k < L.length → w.cell? ⟨b, off + k, none⟩ = some (.int .i64 (L.getD k 0))
theorem IntsV.keep {w w' : World} {a : Option Addr} {cap : Nat} {L : List Int} (h : IntsV w a cap L) (hb : Below w.heap.size w w') : IntsV w' a cap L := by
  rcases h with h | ⟨b, off, h1, h2, h3⟩
  · exact .inl h
  · exact .inr ⟨b, off, h1, h2, fun k hk => bkeep hb (h3 k hk)⟩
/-- a list of instructions in memory -/
structure InsAt (w : World) (b off : Nat) (i : Ins) : Prop where
  c0 : w.cell? ⟨b, off, none⟩ = some (.int .i64 i.op)
  c1 : w.cell? ⟨b, off + 1, none⟩ = some (.int .i64 i.to)
  c2 : w.cell? ⟨b, off + 2, none⟩ = some (.int .i64 i.a)
  c3 : w.cell? ⟨b, off + 3, none⟩ = some (.int .i64 i.b)
  c4 : w.cell? ⟨b, off + 4, none⟩ = some (.int .i64 i.c)
def InsV (w : World) (a : Option Addr) (cap : Nat) (L : List Ins) : Prop := L = [] ∨ ∃ b off, a = some ⟨b, off, none⟩ ∧ L.length ≤ cap ∧ ∀ k, k < L.length → InsAt w b (off + k * 5) (L.getD k default)
theorem InsAt.keep {w w' : World} {b off : Nat} {i : Ins} (h : InsAt w b off i) (hb : Below w.heap.size w w') : InsAt w' b off i := ⟨bkeep hb h.c0, bkeep hb h.c1, bkeep hb h.c2, bkeep hb h.c3, bkeep hb h.c4⟩
theorem InsV.keep {w w' : World} {a : Option Addr} {cap : Nat} {L : List Ins} (h : InsV w a cap L) (hb : Below w.heap.size w w') : InsV w' a cap L := by
  rcases h with h | ⟨b, off, h1, h2, h3⟩
  · exact .inl h
  · exact .inr ⟨b, off, h1, h2, fun k hk => (h3 k hk).keep hb⟩
/-- a slice's address: in a block of the type t, from B on -/
def FromA (B : Nat) (t : TypeId) (w : World) (a : Option Addr) : Prop := ∀ p, a = some p → B ≤ p.block ∧ typOf w p.block = some t
theorem FromA.nil (B : Nat) (t : TypeId) (w : World) : FromA B t w none := fun _ e => by cases e
theorem FromA.keep {B : Nat} {t : TypeId} {w w' : World} {a : Option Addr} (h : FromA B t w a) (hb : Below w.heap.size w w') : FromA B t w' a := fun p e => ⟨(h p e).1, typ_keep (h p e).2 hb⟩
theorem FromA.mono {B C : Nat} {t : TypeId} {w : World} {a : Option Addr} (h : FromA B t w a) (hc : C ≤ B) : FromA C t w a := fun p e => ⟨Nat.le_trans hc (h p e).1, (h p e).2⟩
theorem FromA.set {B : Nat} {t : TypeId} {w : World} {a : Option Addr} (h : FromA B t w a) (q : Addr) (v : Value) : FromA B t (w.setCell q v) a := fun p e => ⟨(h p e).1, by rw [typ_set]; exact (h p e).2⟩
theorem IntsV.far {w : World} {a : Option Addr} {cap : Nat} {L : List Int} (h : IntsV w a cap L) {q : Addr} (hq : ∀ p, a = some p → p.block ≠ q.block) (v : Value) : IntsV (w.setCell q v) a cap L := by
  rcases h with h | ⟨b, off, h1, h2, h3⟩
  · exact .inl h
  · exact .inr ⟨b, off, h1, h2, fun k hk => cell_far (h3 k hk) (fun e => hq _ h1 (by rw [e])) v⟩
theorem InsV.far {w : World} {a : Option Addr} {cap : Nat} {L : List Ins} (h : InsV w a cap L) {q : Addr} (hq : ∀ p, a = some p → p.block ≠ q.block) (v : Value) : InsV (w.setCell q v) a cap L := by
  rcases h with h | ⟨b, off, h1, h2, h3⟩
  · exact .inl h
  · refine .inr ⟨b, off, h1, h2, fun k hk => ?_⟩
    have hn : ∀ o, q ≠ (⟨b, o, Option.none⟩ : Addr) := fun o e => hq _ h1 (by rw [e])
    obtain ⟨c0, c1, c2, c3, c4⟩ := h3 k hk
    exact ⟨cell_far c0 (hn _) v, cell_far c1 (hn _) v, cell_far c2 (hn _) v, cell_far c3 (hn _) v, cell_far c4 (hn _) v⟩
/-- what Check asks of a program -/
structure ProgOk (ins regs : Int) (code : List Ins) (outs : List Int) : Prop where
  i1 : 1 ≤ ins
  i2 : ins ≤ regs
  r1 : regs ≤ 128
  c1 : code.length ≤ 16384
  o1 : 1 ≤ outs.length
  o2 : outs.length ≤ 128
  os : ∀ k, k < outs.length → 0 ≤ outs.getD k 0 ∧ outs.getD k 0 < regs
  cs : ∀ k, k < code.length → mayB (code.getD k default).op (code.getD k default).to (code.getD k default).a (code.getD k default).b (code.getD k default).c regs = true

set_option maxRecDepth 100000 in
set_option maxHeartbeats 8000000 in
theorem check_c (ins regs : Int) (ca oa : Option Addr) (cc oc : Nat) (code : List Ins) (outs : List Int) (w : World) (hc : InsV w ca cc code) (ho : IntsV w oa oc outs) :
    Calls Tryd.prog 40 #[.agg #[.int .i64 ins, .int .i64 regs, .slice ca code.length cc, .slice oa outs.length oc]] w fun e w' => ∃ r s : Int, e = .returned (.tuple #[.int .i64 r, .int .i64 s]) ∧ ((ProgOk ins regs code outs ∧ r = 0 ∧ s = 0) ∨ (¬ ProgOk ins regs code outs ∧ s = 80)) ∧ Below w.heap.size w w' := by
  by_cases h1 : ins < 1
  · have HM := Lib.hid (show ¬ ProgOk ins regs code outs from fun k => by have := k.i1; omega)
    go_enter Tryd.func40, Tryd.ntmps40
    go_wp2
    refine bodyPost_ret (v := .tuple #[.int .i64 (-1), .int .i64 80]) (by simp [results, Tryd.results40, go_sem]) rfl ⟨_, _, rfl, .inr ⟨HM.out, rfl⟩, ?_⟩
    repeat (first | exact Below.refl _ _ | assumption | refine bal ?_ _)
  by_cases h2 : regs < ins
  · have HM := Lib.hid (show ¬ ProgOk ins regs code outs from fun k => by have := k.i2; omega)
    go_enter Tryd.func40, Tryd.ntmps40
    go_wp2
    refine bodyPost_ret (v := .tuple #[.int .i64 (-1), .int .i64 80]) (by simp [results, Tryd.results40, go_sem]) rfl ⟨_, _, rfl, .inr ⟨HM.out, rfl⟩, ?_⟩
    repeat (first | exact Below.refl _ _ | assumption | refine bal ?_ _)
  by_cases h3 : 128 < regs
  · have HM := Lib.hid (show ¬ ProgOk ins regs code outs from fun k => by have := k.r1; omega)
    go_enter Tryd.func40, Tryd.ntmps40
    go_wp2
    refine bodyPost_ret (v := .tuple #[.int .i64 (-1), .int .i64 80]) (by simp [results, Tryd.results40, go_sem]) rfl ⟨_, _, rfl, .inr ⟨HM.out, rfl⟩, ?_⟩
    repeat (first | exact Below.refl _ _ | assumption | refine bal ?_ _)
  by_cases h4 : (16384 : Int) < (code.length : Int)
  · have HM := Lib.hid (show ¬ ProgOk ins regs code outs from fun k => by have := k.c1; omega)
    go_enter Tryd.func40, Tryd.ntmps40
    go_wp2
    refine bodyPost_ret (v := .tuple #[.int .i64 (-1), .int .i64 80]) (by simp [results, Tryd.results40, go_sem]) rfl ⟨_, _, rfl, .inr ⟨HM.out, rfl⟩, ?_⟩
    repeat (first | exact Below.refl _ _ | assumption | refine bal ?_ _)
  by_cases h5 : (outs.length : Int) < 1
  · have HM := Lib.hid (show ¬ ProgOk ins regs code outs from fun k => by have := k.o1; omega)
    go_enter Tryd.func40, Tryd.ntmps40
    go_wp2
    refine bodyPost_ret (v := .tuple #[.int .i64 (-1), .int .i64 80]) (by simp [results, Tryd.results40, go_sem]) rfl ⟨_, _, rfl, .inr ⟨HM.out, rfl⟩, ?_⟩
    repeat (first | exact Below.refl _ _ | assumption | refine bal ?_ _)
  by_cases h6 : (128 : Int) < (outs.length : Int)
  · have HM := Lib.hid (show ¬ ProgOk ins regs code outs from fun k => by have := k.o2; omega)
    go_enter Tryd.func40, Tryd.ntmps40
    go_wp2
    refine bodyPost_ret (v := .tuple #[.int .i64 (-1), .int .i64 80]) (by simp [results, Tryd.results40, go_sem]) rfl ⟨_, _, rfl, .inr ⟨HM.out, rfl⟩, ?_⟩
    repeat (first | exact Below.refl _ _ | assumption | refine bal ?_ _)
  have HH := Lib.hid (And.intro (show 1 ≤ ins ∧ ins ≤ regs ∧ regs ≤ 128 by omega) (show code.length ≤ 16384 ∧ 1 ≤ outs.length ∧ outs.length ≤ 128 by omega))
  have hB := Below.refl w.heap.size w
  go_enter Tryd.func40, Tryd.ntmps40
  go_wp2
  refine wp_name fun w0 hW0 => ?_
  have p0 : w0.cell? ⟨w.heap.size, 0, none⟩ = some (.int .i64 ins) := by rw [hW0]; exact (by first | assumption | exact cell_new (by with_reducible first | rfl | (simp; done) | (simp; omega)) rfl | (repeat (first | assumption | exact cell_new (by with_reducible first | rfl | (simp; done) | (simp; omega)) rfl | refine cell_alloc ?_ _ | refine cell_drew ?_ | refine cell_drewN ?_ _ | refine cell_far ?_ (by simp) _ | (refine cell_far ?_ (by simp <;> omega) _))) | simp [go_sem, *])
  have zp0 := cell_lt p0
  have p1 : w0.cell? ⟨w.heap.size, 1, none⟩ = some (.int .i64 regs) := by rw [hW0]; exact (by first | assumption | exact cell_new (by with_reducible first | rfl | (simp; done) | (simp; omega)) rfl | (repeat (first | assumption | exact cell_new (by with_reducible first | rfl | (simp; done) | (simp; omega)) rfl | refine cell_alloc ?_ _ | refine cell_drew ?_ | refine cell_drewN ?_ _ | refine cell_far ?_ (by simp) _ | (refine cell_far ?_ (by simp <;> omega) _))) | simp [go_sem, *])
  have p2 : w0.cell? ⟨w.heap.size, 2, none⟩ = some (.slice ca code.length cc) := by rw [hW0]; exact (by first | assumption | exact cell_new (by with_reducible first | rfl | (simp; done) | (simp; omega)) rfl | (repeat (first | assumption | exact cell_new (by with_reducible first | rfl | (simp; done) | (simp; omega)) rfl | refine cell_alloc ?_ _ | refine cell_drew ?_ | refine cell_drewN ?_ _ | refine cell_far ?_ (by simp) _ | (refine cell_far ?_ (by simp <;> omega) _))) | simp [go_sem, *])
  have p3 : w0.cell? ⟨w.heap.size, 3, none⟩ = some (.slice oa outs.length oc) := by rw [hW0]; exact (by first | assumption | exact cell_new (by with_reducible first | rfl | (simp; done) | (simp; omega)) rfl | (repeat (first | assumption | exact cell_new (by with_reducible first | rfl | (simp; done) | (simp; omega)) rfl | refine cell_alloc ?_ _ | refine cell_drew ?_ | refine cell_drewN ?_ _ | refine cell_far ?_ (by simp) _ | (refine cell_far ?_ (by simp <;> omega) _))) | simp [go_sem, *])
  have hB : Below w.heap.size w w0 := by rw [hW0]; repeat (first | exact Below.refl _ _ | exact hB | refine Below.drew ?_ | refine below_drewN ?_ _ | refine bset ?_ (by simp <;> omega) _ | refine bal ?_ _)
  have hz : w.heap.size ≤ w0.heap.size := hB.size
  clear hW0
  clear h1 h2 h3 h4 h5 h6
  go_loopw [44] (fun x wr => ∃ k : Nat, k ≤ outs.length ∧ x = .int .i64 k ∧ wr = w0 ∧ Hid (∀ j, j < k → 0 ≤ outs.getD j 0 ∧ outs.getD j 0 < regs)) (fun x _ => outs.length - (intOf x).toNat)
  case atStart => exact ⟨0, Nat.zero_le _, rfl, rfl, Lib.hid (fun j hj => by omega)⟩
  case round =>
    obtain ⟨k, hk, rfl, rfl, hall⟩ := hrel
    have hk8 : outs.length ≤ 128 := HH.out.2.2.2
    by_cases hlt : k < outs.length
    · rcases ho.keep hB with h0 | ⟨b, off, rfl, hcap, hcell⟩
      · rw [h0] at hlt; simp at hlt
      have q0 := hcell k hlt
      have HK := Lib.hid (show ∀ v, v = outs.getD k 0 → ¬ (0 ≤ v ∧ v < regs) → ¬ ProgOk ins regs code outs from fun v hv h hp => h (by rw [hv]; exact hp.os k hlt))
      have HS := Lib.hid (show ∀ v, v = outs.getD k 0 → (0 ≤ v ∧ v < regs) → ∀ j, j < k + 1 → 0 ≤ outs.getD j 0 ∧ outs.getD j 0 < regs from fun v hv h j hj => by
        by_cases e : j = k
        · subst e; rw [← hv]; exact h
        · exact hall.out j (by omega))
      obtain ⟨r, hr⟩ : ∃ r, r = outs.getD k 0 := ⟨_, rfl⟩
      rw [← hr] at q0
      have HR := Lib.hid hr
      clear hr hcell
      by_cases r1 : r < 0
      · have HM := Lib.hid (HK.out r HR.out (by omega))
        go_wp2
        refine bodyPost_ret (v := .tuple #[.int .i64 (-1), .int .i64 80]) (by simp [results, Tryd.results40, go_sem]) rfl ⟨_, _, rfl, .inr ⟨HM.out, rfl⟩, ?_⟩
        repeat (first | exact Below.refl _ _ | assumption | refine bal ?_ _)
      by_cases r2 : regs ≤ r
      · have HM := Lib.hid (HK.out r HR.out (by omega))
        go_wp2
        refine bodyPost_ret (v := .tuple #[.int .i64 (-1), .int .i64 80]) (by simp [results, Tryd.results40, go_sem]) rfl ⟨_, _, rfl, .inr ⟨HM.out, rfl⟩, ?_⟩
        repeat (first | exact Below.refl _ _ | assumption | refine bal ?_ _)
      go_wp2
      exact ⟨⟨k + 1, by omega, by go_num, by first | rfl | trivial, Lib.hid (HS.out r HR.out (by omega))⟩, by simp [intOf]; omega⟩
    · obtain rfl : k = outs.length := by omega
      have HO := Lib.hid hall.out
      clear hall hlt hk
      have hrl : wr.heap.size = wr.heap.size := rfl
      go_wp2
      go_loopw [60] (fun x wi => ∃ k : Nat, k ≤ code.length ∧ x = .int .i64 k ∧ Below wr.heap.size wr wi ∧ Hid (∀ j, j < k → mayB (code.getD j default).op (code.getD j default).to (code.getD j default).a (code.getD j default).b (code.getD j default).c regs = true)) (fun x _ => code.length - (intOf x).toNat)
      case atStart => exact ⟨0, Nat.zero_le _, rfl, Below.refl _ _, Lib.hid (fun j hj => by omega)⟩
      case round =>
        rename World => wi
        obtain ⟨k, hk, rfl, hBi, hall⟩ := hrel
        have hk9 : code.length ≤ 16384 := HH.out.2.1
        have hBB := bthen hB hBi
        have p0 := bkeep hBi p0
        have p1 := bkeep hBi p1
        have zp := cell_lt p0
        by_cases hlt : k < code.length
        · rcases hc.keep hBB with h0 | ⟨b, off, rfl, hcap, hcell⟩
          · rw [h0] at hlt; simp at hlt
          obtain ⟨q0, q1, q2, q3, q4⟩ := hcell k hlt
          have HK := Lib.hid (show ∀ i : Ins, i = code.getD k default → mayB i.op i.to i.a i.b i.c regs = false → ¬ ProgOk ins regs code outs from fun i hi h hp => by
            have := hp.cs k hlt
            rw [← hi, h] at this; cases this)
          have HS := Lib.hid (show ∀ i : Ins, i = code.getD k default → mayB i.op i.to i.a i.b i.c regs = true → ∀ j, j < k + 1 → mayB (code.getD j default).op (code.getD j default).to (code.getD j default).a (code.getD j default).b (code.getD j default).c regs = true from fun i hi h j hj => by
            by_cases e : j = k
            · subst e; rw [← hi]; exact h
            · exact hall.out j (by omega))
          obtain ⟨i, hi⟩ : ∃ i, i = code.getD k default := ⟨_, rfl⟩
          rw [← hi] at q0 q1 q2 q3 q4
          have HI := Lib.hid hi
          clear hi hcell
          obtain ⟨op, t, ia, ib, ic⟩ := i
          dsimp only at q0 q1 q2 q3 q4
          have hmc := fun W => may_c op t ia ib ic regs W
          cases hm : mayB op t ia ib ic regs with
          | true =>
            have HSM := Lib.hid (HS.out _ HI.out hm)
            rw [hm] at hmc
            clear hm
            go_wp2_with fail
            refine (hmc _).mono ?_
            rintro e w5 ⟨rfl, hb5⟩
            have hB5 := bthen (bal hBi _) hb5
            go_wp2
            exact ⟨⟨k + 1, by omega, by go_num, hB5, HSM⟩, by simp [intOf]; omega⟩
          | false =>
            have HM := Lib.hid (HK.out _ HI.out hm)
            rw [hm] at hmc
            clear hm
            go_wp2_with fail
            refine (hmc _).mono ?_
            rintro e w5 ⟨rfl, hb5⟩
            have hB5 := bthen (bal hBi _) hb5
            go_wp2
            refine bodyPost_ret (v := .tuple #[.int .i64 k, .int .i64 80]) (by simp [results, Tryd.results40, go_sem]) rfl ⟨_, _, rfl, .inr ⟨HM.out, rfl⟩, bthen hB hB5⟩
        · obtain rfl : k = code.length := by omega
          have HM := Lib.hid (show ProgOk ins regs code outs from ⟨HH.out.1.1, HH.out.1.2.1, HH.out.1.2.2, HH.out.2.1, HH.out.2.2.1, HH.out.2.2.2, HO.out, hall.out⟩)
          go_wp2
          refine bodyPost_ret (v := .tuple #[.int .i64 0, .int .i64 0]) (by simp [results, Tryd.results40, go_sem]) rfl ⟨_, _, rfl, .inl ⟨HM.out, rfl, rfl⟩, hBB⟩
end Go.Proofs.YtannhpadoooedaaDoor
/- Plain laws: sums, differences, small quotients, shifts of numbers as lists of limbs. -/
namespace Go.Proofs.YtannhpadoooedaaDoor.Num

theorem val_set0 {l : List Nat} {k : Nat} (x : Nat) (hk : k < l.length) (h0 : l.getD k 0 = 0) : val (l.set k x) = val l + x * BB ^ k := by
  have := val_set x hk
  rw [h0] at this
  omega
theorem take_over {l : List Nat} {k : Nat} (hk : l.length ≤ k) : val (l.take (k + 1)) = val (l.take k) := by
  rw [List.take_of_length_le hk, List.take_of_length_le (by omega)]
theorem getD_set_ne {l : List Nat} {i j x : Nat} (h : i ≠ j) : (l.set i x).getD j 0 = l.getD j 0 := by
  simp [List.getD_eq_getElem?_getD, List.getElem?_set_ne h]
/-- a place of a sum -/
theorem add_step {O A B : List Nat} {i c t : Nat} (hO : i < O.length) (h0 : O.getD i 0 = 0) (hA : i < A.length) (ht : t = c + A.getD i 0 + B.getD i 0)
    (h : val O + c * BB ^ i = val (A.take i) + val (B.take i)) : val (O.set i (t % BB)) + t / BB * BB ^ (i + 1) = val (A.take (i + 1)) + val (B.take (i + 1)) := by
  have hB : val (B.take (i + 1)) = val (B.take i) + B.getD i 0 * BB ^ i := by
    by_cases hb : i < B.length
    · exact val_take_succ hb
    · rw [take_over (by omega)]; simp [hb]
  rw [val_set0 _ hO h0, val_take_succ hA, hB]
  have e : t * BB ^ i = t / BB * BB ^ (i + 1) + t % BB * BB ^ i := by
    conv => lhs; rw [← Nat.div_add_mod t BB, Nat.add_mul]
    rw [Nat.pow_succ]
    congr 1
    ac_rfl
  have e2 : t * BB ^ i = c * BB ^ i + A.getD i 0 * BB ^ i + B.getD i 0 * BB ^ i := by rw [ht]; simp only [Nat.add_mul]
  omega
/-- a place of a difference: what is borrowed is 0 or 1 -/
theorem sub_step {O A B : List Nat} {i br r br' : Nat} (hO : i < O.length) (h0 : O.getD i 0 = 0) (hA : i < A.length) (hr : r + (br + B.getD i 0) = A.getD i 0 + br' * BB)
    (h : val O + val (B.take i) = val (A.take i) - 0 + br * BB ^ i) : val (O.set i r) + val (B.take (i + 1)) = val (A.take (i + 1)) - 0 + br' * BB ^ (i + 1) := by
  have hB : val (B.take (i + 1)) = val (B.take i) + B.getD i 0 * BB ^ i := by
    by_cases hb : i < B.length
    · exact val_take_succ hb
    · rw [take_over (by omega)]; simp [hb]
  rw [val_set0 _ hO h0, val_take_succ hA, hB]
  have e := congrArg (· * BB ^ i) hr
  simp only [Nat.add_mul] at e
  have e2 : br' * BB * BB ^ i = br' * BB ^ (i + 1) := by rw [Nat.pow_succ]; ac_rfl
  omega
theorem sub_end {A B : List Nat} {V br : Nat} (hA : Limbs A) (hle : val B ≤ val A) (h : V + val (B.take A.length) = val (A.take A.length) - 0 + br * BB ^ A.length) (hV : V < BB ^ A.length) : V + val B = val A := by
  rw [List.take_length] at h
  have hlt := val_lt hA
  have hsplit : val B = val (B.take A.length) + BB ^ A.length * val (B.drop A.length) := by
    by_cases hb : A.length ≤ B.length
    · conv => lhs; rw [← List.take_append_drop A.length B, val_append]
      rw [List.length_take, Nat.min_eq_left hb]
    · rw [List.take_of_length_le (by omega), List.drop_eq_nil_of_le (by omega)]; simp [val]
  have hd : val (B.drop A.length) = 0 := by
    apply Nat.eq_zero_of_not_pos
    intro hp
    have : BB ^ A.length * 1 ≤ BB ^ A.length * val (B.drop A.length) := Nat.mul_le_mul_left _ hp
    omega
  rw [hd] at hsplit
  simp at hsplit
  rw [hsplit]
  cases br with
  | zero => omega
  | succ n =>
    exfalso
    have : BB ^ A.length * 1 ≤ BB ^ A.length * (n + 1) := Nat.mul_le_mul_left _ (by omega)
    rw [Nat.mul_comm] at h
    have e : (n + 1) * BB ^ A.length = BB ^ A.length * (n + 1) := Nat.mul_comm _ _
    omega
/-- a place of a quotient by a limb -/
theorem div_step {O A : List Nat} {j c rest : Nat} (hO : j < O.length) (h0 : O.getD j 0 = 0) (hA : j < A.length)
    (h : val O * c + rest * BB ^ (j + 1) + val (A.take (j + 1)) = val A) :
    val (O.set j ((rest * BB + A.getD j 0) / c)) * c + (rest * BB + A.getD j 0) % c * BB ^ j + val (A.take j) = val A := by
  rw [val_set0 _ hO h0, ← h, val_take_succ hA, Nat.add_mul]
  have e : (rest * BB + A.getD j 0) * BB ^ j = (rest * BB + A.getD j 0) / c * BB ^ j * c + (rest * BB + A.getD j 0) % c * BB ^ j := by
    conv => lhs; rw [← Nat.div_add_mod (rest * BB + A.getD j 0) c, Nat.add_mul]
    congr 1
    ac_rfl
  have e2 : (rest * BB + A.getD j 0) * BB ^ j = rest * BB ^ (j + 1) + A.getD j 0 * BB ^ j := by rw [Nat.add_mul, Nat.pow_succ, Nat.mul_assoc, Nat.mul_comm BB (BB ^ j)]
  omega
theorem div_lt {rest x c : Nat} (hr : rest < c) (hx : x < BB) : (rest * BB + x) / c < BB := by
  apply Nat.div_lt_of_lt_mul
  have : (rest + 1) * BB ≤ c * BB := Nat.mul_le_mul_right _ hr
  rw [Nat.add_mul] at this
  omega
/-- shifting up: a place; m limbs and k bits -/
theorem shl_step {O A : List Nat} {i m p x : Nat} (hO : i + m + 1 < O.length) (h0 : O.getD (i + m + 1) 0 = 0) (hA : i < A.length) (hx : x = A.getD i 0)
    (h : val O = val (A.take i) * (p * BB ^ m)) : val ((O.set (i + m) (O.getD (i + m) 0 + x * p % BB)).set (i + m + 1) (x * p / BB)) = val (A.take (i + 1)) * (p * BB ^ m) := by
  have h1 : (O.set (i + m) (O.getD (i + m) 0 + x * p % BB)).getD (i + m + 1) 0 = 0 := by rw [getD_set_ne (by omega), h0]
  rw [val_set0 _ (by simpa using hO) h1]
  have h2 := val_set (l := O) (k := i + m) (O.getD (i + m) 0 + x * p % BB) (by omega)
  rw [Nat.add_mul (O.getD (i + m) 0)] at h2
  rw [val_take_succ hA, ← hx, Nat.add_mul, ← h]
  have e : x * p * BB ^ (i + m) = x * p / BB * BB ^ (i + m + 1) + x * p % BB * BB ^ (i + m) := by
    conv => lhs; rw [← Nat.div_add_mod (x * p) BB, Nat.add_mul]
    rw [Nat.pow_succ]
    congr 1
    ac_rfl
  have e2 : x * BB ^ i * (p * BB ^ m) = x * p * BB ^ (i + m) := by rw [Nat.pow_add]; ac_rfl
  omega
/-- the low part of a place that is shifted up meets no bit -/
theorem or_low {x k o : Nat} (ho : o < 2 ^ k) (hk : k ≤ 32) : (x * 2 ^ k % BB) ||| o = o + x * 2 ^ k % BB := by
  have e : BB = 2 ^ k * 2 ^ (32 - k) := by rw [← Nat.pow_add, Nat.add_sub_cancel' hk]; rfl
  have e2 : x * 2 ^ k % BB = 2 ^ k * (x % 2 ^ (32 - k)) := by rw [e, Nat.mul_comm x, Nat.mul_mod_mul_left]
  rw [e2, ← Nat.two_pow_add_eq_or_of_lt ho]
  omega
theorem shl_hi {x k : Nat} (hx : x < BB) : x * 2 ^ k / BB < 2 ^ k := by
  apply Nat.div_lt_of_lt_mul
  rw [Nat.mul_comm BB, Nat.mul_comm]
  exact Nat.mul_lt_mul_of_pos_left hx (Nat.pow_pos (by omega))
theorem shl_lo {x k o : Nat} (ho : o < 2 ^ k) (hk : k ≤ 32) : o + x * 2 ^ k % BB < BB := by
  have e : BB = 2 ^ k * 2 ^ (32 - k) := by rw [← Nat.pow_add, Nat.add_sub_cancel' hk]; rfl
  have e2 : x * 2 ^ k % BB = 2 ^ k * (x % 2 ^ (32 - k)) := by rw [e, Nat.mul_comm x, Nat.mul_mod_mul_left]
  rw [e2, e]
  have h1 : x % 2 ^ (32 - k) < 2 ^ (32 - k) := Nat.mod_lt _ (Nat.pow_pos (by omega))
  have h2 : 2 ^ k * (x % 2 ^ (32 - k) + 1) ≤ 2 ^ k * 2 ^ (32 - k) := Nat.mul_le_mul_left _ h1
  rw [Nat.mul_add] at h2
  omega
/-- shifting down by less than a limb -/
def shrL (k : Nat) : List Nat → List Nat
  | [] => []
  | x :: l => (x + l.getD 0 0 * BB) / 2 ^ k % BB :: shrL k l
theorem shrL_len (k : Nat) (l : List Nat) : (shrL k l).length = l.length := by
  induction l with
  | nil => rfl
  | cons x l ih => simp [shrL, ih]
theorem shrL_get (k : Nat) (l : List Nat) (i : Nat) (hi : i < l.length) : (shrL k l).getD i 0 = (l.getD i 0 + l.getD (i + 1) 0 * BB) / 2 ^ k % BB := by
  induction l generalizing i with
  | nil => simp at hi
  | cons x l ih =>
    cases i with
    | zero => rw [shrL, List.getD_cons_zero, List.getD_cons_zero, List.getD_cons_succ]
    | succ i => rw [shrL, List.getD_cons_succ, List.getD_cons_succ, List.getD_cons_succ]; exact ih i (by simpa using hi)
theorem shrL_limbs (k : Nat) (l : List Nat) : Limbs (shrL k l) := by
  induction l with
  | nil => intro x hx; cases hx
  | cons x l ih =>
    intro y hy
    rcases List.mem_cons.1 hy with rfl | h
    · exact Nat.mod_lt _ BB_pos
    · exact ih y h
theorem shr_arith {B b K x V y : Nat} (e : B = b * K) (hp : 0 < b) (hx : x < B) (hmod : V % b = y % b) : (x + y * B) / b % B + B * (V / b) = (x + B * V) / b := by
  have h1 : (x + B * V) / b = x / b + K * V := by rw [e, Nat.mul_assoc, Nat.add_mul_div_left _ _ hp]
  have h2 : (x + y * B) / b = x / b + K * y := by rw [e, show y * (b * K) = b * (K * y) from by ac_rfl, Nat.add_mul_div_left _ _ hp]
  rw [h1, h2]
  have hxb : x / b < K := Nat.div_lt_of_lt_mul (by rw [← e]; exact hx)
  have key : ∀ z, (x / b + K * z) % B = x / b + K * (z % b) := fun z => by
    have e3 : K * z = B * (z / b) + K * (z % b) := by
      conv => lhs; rw [← Nat.div_add_mod z b, Nat.mul_add]
      rw [e]
      congr 1
      ac_rfl
    rw [e3, show x / b + (B * (z / b) + K * (z % b)) = x / b + K * (z % b) + B * (z / b) from by omega, Nat.add_mul_mod_self_left]
    apply Nat.mod_eq_of_lt
    have h5 : z % b + 1 ≤ b := Nat.mod_lt _ hp
    have h6 : K * (z % b + 1) ≤ K * b := Nat.mul_le_mul_left _ h5
    rw [Nat.mul_add] at h6
    rw [e, Nat.mul_comm b K]
    omega
  rw [key, ← hmod]
  have e4 : K * V = B * (V / b) + K * (V % b) := by
    conv => lhs; rw [← Nat.div_add_mod V b, Nat.mul_add]
    rw [e]
    congr 1
    ac_rfl
  omega
theorem BB_split {k : Nat} (hk : k ≤ 32) : BB = 2 ^ k * 2 ^ (32 - k) := by rw [← Nat.pow_add, Nat.add_sub_cancel' hk]; rfl
theorem val_mod (k : Nat) (hk : k ≤ 32) (l : List Nat) : val l % 2 ^ k = l.getD 0 0 % 2 ^ k := by
  cases l with
  | nil => rfl
  | cons y l =>
    rw [val, BB_split hk, Nat.mul_assoc, Nat.add_mul_mod_self_left]
    rfl
theorem shrL_val (k : Nat) (hk : k < 32) (l : List Nat) (hl : Limbs l) : val (shrL k l) = val l / 2 ^ k := by
  induction l with
  | nil => simp [shrL, val]
  | cons x l ih =>
    have hx := hl x (by simp)
    have ih := ih (fun y hy => hl y (by simp [hy]))
    rw [shrL, val, val, ih]
    exact shr_arith (BB_split (by omega)) (Nat.pow_pos (by omega)) hx (val_mod k (by omega) l)
theorem val_drop {l : List Nat} {m : Nat} (hl : Limbs l) (hm : m ≤ l.length) : val (l.drop m) = val l / BB ^ m := by
  have h : val l = val (l.take m) + BB ^ m * val (l.drop m) := by
    conv => lhs; rw [← List.take_append_drop m l, val_append]
    rw [List.length_take, Nat.min_eq_left hm]
  have h2 := val_lt (limbs_take hl m)
  rw [List.length_take, Nat.min_eq_left hm] at h2
  rw [h, Nat.add_mul_div_left _ _ (Nat.pow_pos BB_pos), Nat.div_eq_of_lt h2, Nat.zero_add]
end Go.Proofs.YtannhpadoooedaaDoor.Num
