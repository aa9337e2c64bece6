/- ring: the norms whose greater coordinate is h. -/
import Derived.Test.YtphhjkclokjboaaDoorPtE
import Derived.Test.YtphhjkclokjboaaDoorIter
namespace Go.Proofs.YtphhjkclokjboaaDoor
open Pt
open Go.ChangeShapes Go.WideShapes Go.ChangeAt Go.RowKit
set_option linter.unusedVariables false
set_option linter.unusedSimpArgs false

theorem neq_pvg (x y u v : Int) (w : World) : (binOp .neq 32 (.agg #[.int .i64 x, .int .i64 y]) (.agg #[.int .i64 u, .int .i64 v])).run Tryd.prog w = .ok (.bool (!(x == u && y == v))) w := by
  by_cases h : x = u
  · subst h
    by_cases h : y = v
    · subst h; simp [go_sem]
    · simp [go_sem, h]
  · simp [go_sem, h]
theorem norm10 (w : World) : Calls Tryd.prog 21 #[.agg #[.int .i64 1, .int .i64 0]] w fun e w' => e = .returned (.agg #[.int .i64 1, .int .i64 0]) ∧ Below w.heap.size w w' := norm_c 1 0 w (by decide)
namespace Pt
/-- is this one told? -/
def ringB (h a b s : Int) : Bool := decide (max a b = h ∧ ¬ (s = 1 ∧ b = 0) ∧ a ≠ 0 ∧ nrm s b = (s, b))
def ring1 (h a b s : Int) : List (Int × Int) := if ringB h a b s then [(s, b)] else []
def ringS (h a b : Int) : List (Int × Int) := ring1 h a b a ++ ring1 h a b (-a)
/-- what has been told of the two signs -/
def ringI (h a b : Int) : Nat → List (Int × Int)
  | 0 => []
  | 1 => ring1 h a b a
  | _ => ringS h a b
def ringA (h b : Int) : Nat → List (Int × Int)
  | 0 => []
  | a + 1 => ringA h b a ++ ringS h (a : Int) b
def ringL (h : Nat) : Nat → List (Int × Int)
  | 0 => []
  | b + 1 => ringL h b ++ ringA (h : Int) (b : Int) (h + 1)
/-- how far it has come -/
def posB (pre : List (Int × Int)) (h b : Nat) : List (Int × Int) := pre ++ ringL h b
def posA (pre : List (Int × Int)) (h b a : Nat) : List (Int × Int) := pre ++ ringL h b ++ ringA h b a
def posI (pre : List (Int × Int)) (h b a i : Nat) : List (Int × Int) := pre ++ ringL h b ++ ringA h b a ++ ringI h a b i
theorem posB_0 (pre : List (Int × Int)) (h : Nat) : posB pre h 0 = pre := by simp [posB, ringL]
theorem posA_0 (pre : List (Int × Int)) (h b : Nat) : posA pre h b 0 = posB pre h b := by simp [posA, posB, ringA]
theorem posI_0 (pre : List (Int × Int)) (h b a : Nat) : posI pre h b a 0 = posA pre h b a := by simp [posI, posA, ringI]
theorem posI_2 (pre : List (Int × Int)) (h b a : Nat) : posI pre h b a 2 = posA pre h b (a + 1) := by simp [posI, posA, ringI, ringA]
theorem posA_h (pre : List (Int × Int)) (h b : Nat) : posA pre h b (h + 1) = posB pre h (b + 1) := by simp [posA, posB, ringL]
theorem posI_s (pre : List (Int × Int)) (h b a i : Nat) (s : Int) (hi : (i = 0 ∧ s = a) ∨ (i = 1 ∧ s = -(a : Int))) : posI pre h b a (i + 1) = posI pre h b a i ++ ring1 h a b s := by
  rcases hi with ⟨rfl, rfl⟩ | ⟨rfl, rfl⟩ <;> simp [posI, ringI, ringS]
theorem ringA_mono (h b : Int) (a : Nat) : ∀ c : Nat, ringA h b a <+: ringA h b (a + c)
  | 0 => List.prefix_rfl
  | c + 1 => (ringA_mono h b a c).trans (by rw [← Nat.add_assoc]; exact List.prefix_append _ _)
theorem ringL_mono (h b : Nat) : ∀ c : Nat, ringL h b <+: ringL h (b + c)
  | 0 => List.prefix_rfl
  | c + 1 => (ringL_mono h b c).trans (by rw [← Nat.add_assoc]; exact List.prefix_append _ _)
theorem posI_pre (pre : List (Int × Int)) (h b a i : Nat) (hb : b ≤ h) (ha : a ≤ h) (hi : i < 2) : ∃ q, posI pre h b a (i + 1) = pre ++ q ∧ q <+: ringL h (h + 1) := by
  refine ⟨ringL h b ++ ringA h b a ++ ringI h a b (i + 1), by simp [posI], ?_⟩
  have h1 : ringI h a b (i + 1) <+: ringS h a b := by
    by_cases e : i = 0
    · subst e; exact List.prefix_append _ _
    · obtain rfl : i = 1 := by omega
      exact List.prefix_rfl
  have h2 : ringA h b a ++ ringI h a b (i + 1) <+: ringA h b (h + 1) := by
    refine ((List.prefix_append_right_inj (ringA h b a)).2 h1).trans ?_
    have := ringA_mono h b (a + 1) (h - a)
    rw [show a + 1 + (h - a) = h + 1 from by omega] at this
    exact this
  have h3 : ringL h b ++ ringA h b (h + 1) <+: ringL h (h + 1) := by
    have := ringL_mono h (b + 1) (h - b)
    rw [show b + 1 + (h - b) = h + 1 from by omega] at this
    exact this
  rw [List.append_assoc]
  exact ((List.prefix_append_right_inj (ringL h b)).2 h2).trans h3
theorem ring1_no {h a b s : Int} (hh : ¬ (max a b = h ∧ ¬ (s = 1 ∧ b = 0) ∧ a ≠ 0 ∧ nrm s b = (s, b))) : ring1 h a b s = [] := by
  unfold ring1 ringB; rw [decide_eq_false hh]; rfl
theorem ring1_yes {h a b s : Int} (hh : max a b = h ∧ ¬ (s = 1 ∧ b = 0) ∧ a ≠ 0 ∧ nrm s b = (s, b)) : ring1 h a b s = [(s, b)] := by
  unfold ring1 ringB; rw [decide_eq_true hh]; rfl
end Pt

/-- what a loop's body keeps, round for round -/
structure KRel (n0 : Nat) (K : World → World → Prop) : Prop where
  refl : ∀ w, K w w
  trans : ∀ {a b c}, K a b → K b c → K a c
  bel : ∀ {a b}, Below n0 a b → K a b
  size : ∀ {a b}, K a b → a.heap.size ≤ b.heap.size
theorem below_krel (n0 : Nat) : KRel n0 (Below n0) := ⟨fun w => Below.refl _ w, fun h k => h.trans k, fun h => h, fun h => h.size⟩
/-- all blocks below n0 but one -/
def Bex (c n0 : Nat) (a b : World) : Prop := a.heap.size ≤ b.heap.size ∧ ∀ k, k < n0 → k ≠ c → b.heap[k]? = a.heap[k]?
theorem bex_krel (c n0 : Nat) : KRel n0 (Bex c n0) := ⟨fun w => ⟨Nat.le_refl _, fun _ _ _ => rfl⟩, fun h k => ⟨Nat.le_trans h.1 k.1, fun i hi hc => (k.2 i hi hc).trans (h.2 i hi hc)⟩, fun h => ⟨h.size, fun i hi _ => h.block i hi⟩, fun h => h.1⟩
theorem Bex.cell {c n0 : Nat} {a b : World} (h : Bex c n0 a b) {p : Addr} {v : Value} (hc : p.block ≠ c) (hn : p.block < n0) (hv : a.cell? p = some v) : b.cell? p = some v := (World.cell?_of_block (h.2 _ hn hc)).trans hv
/-- what is asked of a loop's body -/
def Yields (l : Nat) (K : World → World → Prop) (N : Nat) (J Jx : List (Int × Int) → World → Prop) : Prop :=
  ∀ pre x W1, J pre W1 → pre.length < N → YieldAt Fence.wide 3 Tryd.prog l #[pv x.1 x.2] W1 fun e W' => (e = .returned (.bool true) ∧ J (pre ++ [x]) W' ∧ K W1 W') ∨ (e = .returned (.bool false) ∧ Jx (pre ++ [x]) W')
def RingPost (h : Nat) (K : World → World → Prop) (J Jx : List (Int × Int) → World → Prop) (pre0 : List (Int × Int)) (W : World) (e : Ending) (W' : World) : Prop :=
  (e = .returned (.bool true) ∧ J (pre0 ++ ringL h (h + 1)) W' ∧ K W W') ∨ (e = .returned (.bool false) ∧ ∃ q, q <+: ringL h (h + 1) ∧ Jx (pre0 ++ q) W')

set_option maxRecDepth 100000 in
set_option maxHeartbeats 2000000 in
set_option maxRecDepth 100000 in
theorem ring_c (l h n0 N : Nat) (K : World → World → Prop) (hK : KRel n0 K) (hh : h ≤ 16) (J Jx : List (Int × Int) → World → Prop) (hJ : ∀ pre W W', J pre W → W.grownBy W' none → J pre W') (hJx : ∀ pre W W', Jx pre W → W.grownBy W' none → Jx pre W')
    (hY : Yields l K N J Jx) (pre0 : List (Int × Int)) (W : World) (hn0 : n0 ≤ W.heap.size) (h0 : J pre0 W) (hN : pre0.length + (ringL h (h + 1)).length ≤ N) :
    Calls Tryd.prog 18 #[.int .i64 (h : Int), .func (.yield l) #[] #[]] W (RingPost h K J Jx pre0 W) := by
  go_enter Tryd.func18, Tryd.ntmps18
  go_wp2
  go_loopw [5] (fun x wr => ∃ b : Nat, b ≤ h + 1 ∧ x = .int .i64 b ∧ J (posB pre0 h b) wr ∧ K W wr) (fun x _ => h + 1 - (intOf x).toNat)
  case atStart => exact ⟨0, by omega, rfl, by rw [posB_0]; exact h0, hK.refl _⟩
  case round =>
    obtain ⟨b, hb, rfl, hJb, hB⟩ := hrel
    by_cases hlt : b ≤ h
    · go_wp2
      go_loopw [6] (fun x wr => ∃ a : Nat, a ≤ h + 1 ∧ x = .int .i64 a ∧ J (posA pre0 h b a) wr ∧ K W wr) (fun x _ => h + 1 - (intOf x).toNat)
      case atStart => exact ⟨0, by omega, rfl, by rw [posA_0]; exact hJb, hB⟩
      case round =>
        rename World => wi
        obtain ⟨a, ha, rfl, hJa, hB⟩ := hrel
        by_cases hla : a ≤ h
        · clear hJb
          have i0 : ∀ w, (Instr.index 67 (.agg #[.int .i64 (a : Int), .int .i64 (-(a : Int))]) (.int .i64 0)).run Tryd.prog w = .ok (.int .i64 (a : Int)) w := fun _ => by kernel_rfl
          have i1 : ∀ w, (Instr.index 67 (.agg #[.int .i64 (a : Int), .int .i64 (-(a : Int))]) (.int .i64 1)).run Tryd.prog w = .ok (.int .i64 (-(a : Int))) w := fun _ => by kernel_rfl
          go_wp2
          go_loopw [24] (fun x wr => ∃ i : Nat, i ≤ 2 ∧ x = .int .i64 i ∧ J (posI pre0 h b a i) wr ∧ K W wr) (fun x _ => 2 - (intOf x).toNat)
          case atStart => exact ⟨0, by omega, rfl, by rw [posI_0]; exact hJa, hB⟩
          case round =>
            rename World => w
            obtain ⟨i, hi, rfl, hJi, hBW⟩ := hrel
            have hB := Below.refl w.heap.size w
            by_cases hli : i < 2
            · have hs : ∃ s : Int, (s = a ∨ s = -(a : Int)) ∧ (∀ w, (Instr.index 67 (.agg #[.int .i64 (a : Int), .int .i64 (-(a : Int))]) (.int .i64 (i : Int))).run Tryd.prog w = .ok (.int .i64 s) w) ∧ posI pre0 h b a (i + 1) = posI pre0 h b a i ++ ring1 h a b s := by
                by_cases e : i = 0
                · subst e; exact ⟨a, .inl rfl, i0, posI_s _ _ _ _ _ _ (.inl ⟨rfl, rfl⟩)⟩
                · obtain rfl : i = 1 := by omega
                  exact ⟨_, .inr rfl, i1, posI_s _ _ _ _ _ _ (.inr ⟨rfl, rfl⟩)⟩
              obtain ⟨s, hs, hix, hnext⟩ := hs
              have hin : PIn s b := ⟨by omega, by omega, by omega, by omega⟩
              have HN := Lib.hid hnext
              have HS := Lib.hid hs
              clear hnext i0 i1 hs hJa
              -- passed over: the list stays
              have skip : ∀ w', ring1 h a b s = [] → Below w.heap.size w w' → (∃ i', i' ≤ 2 ∧ Value.int .i64 ((i : Int) + 1) = .int .i64 (i' : Nat) ∧ J (posI pre0 h b a i') w' ∧ K W w') := fun w' hr hb' =>
                ⟨i + 1, by omega, by go_num, by rw [HN.out, hr, List.append_nil]; exact hJ _ _ _ hJi (grown_of_below hb'), hK.trans hBW (hK.bel (hb'.mono (Nat.le_trans hn0 (hK.size hBW))))⟩
              have SK := Lib.hid skip
              clear skip
              by_cases hab : (a : Int) < (b : Int)
              ·
                by_cases e1 : (b : Int) = h
                · have e1' : ((b : Int) != (h : Int)) = false := by simpa using e1
                  have hmx : max (a : Int) (b : Int) = h := by rw [Int.max_def]; split <;> omega
                  by_cases e2 : a = 0
                  · have es : s = 0 := by rcases HS.out with h | h <;> omega
                    have R1 := Lib.hid (show ring1 h a b s = [] from ring1_no (fun k => k.2.2.1 (by omega)))
                    have ts : (s == 0) = true := by simpa using es
                    have ta : ((a : Int) == 0) = true := by simp; omega
                    have t3 : (s == 1) = false := by simp; omega
                    have he : ∀ w, (binOp .eql 32 (.agg #[.int .i64 s, .int .i64 (b : Int)]) (.agg #[.int .i64 1, .int .i64 0])).run Tryd.prog w = .ok (.bool false) w := fun w => by rw [eq_pv, t3]; rfl
                    clear e1 e2 es hmx
                    by_cases e3 : b = 1
                    · have tb : ((b : Int) == 1) = true := by simp; omega
                      clear e3
                      go_wp2
                      exact ⟨SK.out _ R1.out (bal hB _), by simp [intOf]; omega⟩
                    · have tb : ((b : Int) == 1) = false := by simp; omega
                      clear e3
                      go_wp2
                      refine wp_name fun w2 hW2 => ?_
                      have g0 : w2.cell? ⟨w.heap.size, 0, none⟩ = some (.int .i64 s) := by rw [hW2]; exact (by first | assumption | exact cell_new (by with_reducible first | rfl | (simp; done) | (simp; omega)) rfl | (repeat (first | assumption | exact cell_new (by with_reducible first | rfl | (simp; done) | (simp; omega)) rfl | refine cell_alloc ?_ _ | refine cell_drew ?_ | refine cell_drewN ?_ _ | refine cell_far ?_ (by simp) _ | (refine cell_far ?_ (by simp <;> omega) _))) | simp [go_sem, *])
                      have zg0 := cell_lt g0
                      have g1 : w2.cell? ⟨w.heap.size, 1, none⟩ = some (.int .i64 (b : Int)) := by rw [hW2]; exact (by first | assumption | exact cell_new (by with_reducible first | rfl | (simp; done) | (simp; omega)) rfl | (repeat (first | assumption | exact cell_new (by with_reducible first | rfl | (simp; done) | (simp; omega)) rfl | refine cell_alloc ?_ _ | refine cell_drew ?_ | refine cell_drewN ?_ _ | refine cell_far ?_ (by simp) _ | (refine cell_far ?_ (by simp <;> omega) _))) | simp [go_sem, *])
                      have hB : Below w.heap.size w w2 := by rw [hW2]; repeat (first | exact Below.refl _ _ | exact hB | refine Below.drew ?_ | refine below_drewN ?_ _ | refine bset ?_ (by simp <;> omega) _ | refine bal ?_ _)
                      have hz : w.heap.size ≤ w2.heap.size := hB.size
                      clear hW2
                      refine wp_region_grow (w := w2) (by kernel_rfl) (by kernel_rfl) ?_
                      have g0g : ∀ gs, (grow w2 gs).cell? ⟨w.heap.size, 0, none⟩ = some (.int .i64 s) := fun gs => bkeep gs.below g0
                      have g1g : ∀ gs, (grow w2 gs).cell? ⟨w.heap.size, 1, none⟩ = some (.int .i64 (b : Int)) := fun gs => bkeep gs.below g1
                      repeat (go_big_quiet_step ((first | (go_at_call 21; exact grow_of (norm10 _)))))
                      refine wpQuiet_nil ?_
                      intro w3 hb3
                      clear g0g
                      clear g1g
                      have g0 : w3.cell? ⟨w.heap.size, 0, none⟩ = some (.int .i64 s) := bkeep hb3 (by first | assumption | exact cell_new (by with_reducible first | rfl | (simp; done) | (simp; omega)) rfl | (repeat (first | assumption | exact cell_new (by with_reducible first | rfl | (simp; done) | (simp; omega)) rfl | refine cell_alloc ?_ _ | refine cell_drew ?_ | refine cell_drewN ?_ _ | refine cell_far ?_ (by simp) _ | (refine cell_far ?_ (by simp <;> omega) _))) | simp [go_sem, *])
                      have zg0 := cell_lt g0
                      have g1 : w3.cell? ⟨w.heap.size, 1, none⟩ = some (.int .i64 (b : Int)) := bkeep hb3 (by first | assumption | exact cell_new (by with_reducible first | rfl | (simp; done) | (simp; omega)) rfl | (repeat (first | assumption | exact cell_new (by with_reducible first | rfl | (simp; done) | (simp; omega)) rfl | refine cell_alloc ?_ _ | refine cell_drew ?_ | refine cell_drewN ?_ _ | refine cell_far ?_ (by simp) _ | (refine cell_far ?_ (by simp <;> omega) _))) | simp [go_sem, *])
                      have hB : Below w.heap.size w w3 := bthen (by repeat (first | exact Below.refl _ _ | exact hB | refine Below.drew ?_ | refine below_drewN ?_ _ | refine bset ?_ (by simp <;> omega) _ | refine bal ?_ _)) hb3
                      have hz : w.heap.size ≤ w3.heap.size := hB.size
                      go_wp2
                      exact ⟨SK.out _ R1.out hB, by simp [intOf]; omega⟩
                  · have ts : (s == 0) = false := by simp; rcases HS.out with h | h <;> omega
                    have ta : ((a : Int) == 0) = false := by simp; omega
                    by_cases e3 : s = 1 ∧ (b : Int) = 0
                    · have R1 := Lib.hid (show ring1 h a b s = [] from ring1_no (fun k => k.2.1 e3))
                      have he : ∀ w, (binOp .eql 32 (.agg #[.int .i64 s, .int .i64 (b : Int)]) (.agg #[.int .i64 1, .int .i64 0])).run Tryd.prog w = .ok (.bool true) w := fun w => by rw [eq_pv, e3.1, e3.2]; rfl
                      clear e1 e2 e3 hmx
                      go_wp2
                      refine wp_name fun w2 hW2 => ?_
                      have g0 : w2.cell? ⟨w.heap.size, 0, none⟩ = some (.int .i64 s) := by rw [hW2]; exact (by first | assumption | exact cell_new (by with_reducible first | rfl | (simp; done) | (simp; omega)) rfl | (repeat (first | assumption | exact cell_new (by with_reducible first | rfl | (simp; done) | (simp; omega)) rfl | refine cell_alloc ?_ _ | refine cell_drew ?_ | refine cell_drewN ?_ _ | refine cell_far ?_ (by simp) _ | (refine cell_far ?_ (by simp <;> omega) _))) | simp [go_sem, *])
                      have zg0 := cell_lt g0
                      have g1 : w2.cell? ⟨w.heap.size, 1, none⟩ = some (.int .i64 (b : Int)) := by rw [hW2]; exact (by first | assumption | exact cell_new (by with_reducible first | rfl | (simp; done) | (simp; omega)) rfl | (repeat (first | assumption | exact cell_new (by with_reducible first | rfl | (simp; done) | (simp; omega)) rfl | refine cell_alloc ?_ _ | refine cell_drew ?_ | refine cell_drewN ?_ _ | refine cell_far ?_ (by simp) _ | (refine cell_far ?_ (by simp <;> omega) _))) | simp [go_sem, *])
                      have hB : Below w.heap.size w w2 := by rw [hW2]; repeat (first | exact Below.refl _ _ | exact hB | refine Below.drew ?_ | refine below_drewN ?_ _ | refine bset ?_ (by simp <;> omega) _ | refine bal ?_ _)
                      have hz : w.heap.size ≤ w2.heap.size := hB.size
                      clear hW2
                      refine wp_region_grow (w := w2) (by kernel_rfl) (by kernel_rfl) ?_
                      have g0g : ∀ gs, (grow w2 gs).cell? ⟨w.heap.size, 0, none⟩ = some (.int .i64 s) := fun gs => bkeep gs.below g0
                      have g1g : ∀ gs, (grow w2 gs).cell? ⟨w.heap.size, 1, none⟩ = some (.int .i64 (b : Int)) := fun gs => bkeep gs.below g1
                      repeat (go_big_quiet_step ((first | (go_at_call 21; exact grow_of (norm10 _)))))
                      refine wpQuiet_nil ?_
                      intro w3 hb3
                      clear g0g
                      clear g1g
                      have g0 : w3.cell? ⟨w.heap.size, 0, none⟩ = some (.int .i64 s) := bkeep hb3 (by first | assumption | exact cell_new (by with_reducible first | rfl | (simp; done) | (simp; omega)) rfl | (repeat (first | assumption | exact cell_new (by with_reducible first | rfl | (simp; done) | (simp; omega)) rfl | refine cell_alloc ?_ _ | refine cell_drew ?_ | refine cell_drewN ?_ _ | refine cell_far ?_ (by simp) _ | (refine cell_far ?_ (by simp <;> omega) _))) | simp [go_sem, *])
                      have zg0 := cell_lt g0
                      have g1 : w3.cell? ⟨w.heap.size, 1, none⟩ = some (.int .i64 (b : Int)) := bkeep hb3 (by first | assumption | exact cell_new (by with_reducible first | rfl | (simp; done) | (simp; omega)) rfl | (repeat (first | assumption | exact cell_new (by with_reducible first | rfl | (simp; done) | (simp; omega)) rfl | refine cell_alloc ?_ _ | refine cell_drew ?_ | refine cell_drewN ?_ _ | refine cell_far ?_ (by simp) _ | (refine cell_far ?_ (by simp <;> omega) _))) | simp [go_sem, *])
                      have hB : Below w.heap.size w w3 := bthen (by repeat (first | exact Below.refl _ _ | exact hB | refine Below.drew ?_ | refine below_drewN ?_ _ | refine bset ?_ (by simp <;> omega) _ | refine bal ?_ _)) hb3
                      have hz : w.heap.size ≤ w3.heap.size := hB.size
                      go_wp2
                      exact ⟨SK.out _ R1.out hB, by simp [intOf]; omega⟩
                    · have he : ∀ w, (binOp .eql 32 (.agg #[.int .i64 s, .int .i64 (b : Int)]) (.agg #[.int .i64 1, .int .i64 0])).run Tryd.prog w = .ok (.bool false) w := fun w => by
                        rw [eq_pv]; congr 2; rw [Bool.eq_false_iff]; simp only [ne_eq, Bool.and_eq_true, beq_iff_eq]; exact e3
                      by_cases e4 : nrm s b = (s, (b : Int))
                      · have R1 := Lib.hid (ring1_yes ⟨hmx, e3, (by omega : (a : Int) ≠ 0), e4⟩)
                        have hn : ∀ w, (binOp .neq 32 (.agg #[.int .i64 (nrm s b).1, .int .i64 (nrm s b).2]) (.agg #[.int .i64 s, .int .i64 (b : Int)])).run Tryd.prog w = .ok (.bool false) w := fun w => by rw [neq_pvg, e4]; simp
                        clear e1 e2 e3 e4 hmx
                        go_wp2
                        refine wp_name fun w2 hW2 => ?_
                        have g0 : w2.cell? ⟨w.heap.size, 0, none⟩ = some (.int .i64 s) := by rw [hW2]; exact (by first | assumption | exact cell_new (by with_reducible first | rfl | (simp; done) | (simp; omega)) rfl | (repeat (first | assumption | exact cell_new (by with_reducible first | rfl | (simp; done) | (simp; omega)) rfl | refine cell_alloc ?_ _ | refine cell_drew ?_ | refine cell_drewN ?_ _ | refine cell_far ?_ (by simp) _ | (refine cell_far ?_ (by simp <;> omega) _))) | simp [go_sem, *])
                        have zg0 := cell_lt g0
                        have g1 : w2.cell? ⟨w.heap.size, 1, none⟩ = some (.int .i64 (b : Int)) := by rw [hW2]; exact (by first | assumption | exact cell_new (by with_reducible first | rfl | (simp; done) | (simp; omega)) rfl | (repeat (first | assumption | exact cell_new (by with_reducible first | rfl | (simp; done) | (simp; omega)) rfl | refine cell_alloc ?_ _ | refine cell_drew ?_ | refine cell_drewN ?_ _ | refine cell_far ?_ (by simp) _ | (refine cell_far ?_ (by simp <;> omega) _))) | simp [go_sem, *])
                        have hB : Below w.heap.size w w2 := by rw [hW2]; repeat (first | exact Below.refl _ _ | exact hB | refine Below.drew ?_ | refine below_drewN ?_ _ | refine bset ?_ (by simp <;> omega) _ | refine bal ?_ _)
                        have hz : w.heap.size ≤ w2.heap.size := hB.size
                        clear hW2
                        refine wp_region_grow (w := w2) (by kernel_rfl) (by kernel_rfl) ?_
                        have g0g : ∀ gs, (grow w2 gs).cell? ⟨w.heap.size, 0, none⟩ = some (.int .i64 s) := fun gs => bkeep gs.below g0
                        have g1g : ∀ gs, (grow w2 gs).cell? ⟨w.heap.size, 1, none⟩ = some (.int .i64 (b : Int)) := fun gs => bkeep gs.below g1
                        repeat (go_big_quiet_step ((first | (go_at_call 21; exact grow_of (norm10 _)))))
                        refine wpQuiet_nil ?_
                        intro w3 hb3
                        clear g0g
                        clear g1g
                        have g0 : w3.cell? ⟨w.heap.size, 0, none⟩ = some (.int .i64 s) := bkeep hb3 (by first | assumption | exact cell_new (by with_reducible first | rfl | (simp; done) | (simp; omega)) rfl | (repeat (first | assumption | exact cell_new (by with_reducible first | rfl | (simp; done) | (simp; omega)) rfl | refine cell_alloc ?_ _ | refine cell_drew ?_ | refine cell_drewN ?_ _ | refine cell_far ?_ (by simp) _ | (refine cell_far ?_ (by simp <;> omega) _))) | simp [go_sem, *])
                        have zg0 := cell_lt g0
                        have g1 : w3.cell? ⟨w.heap.size, 1, none⟩ = some (.int .i64 (b : Int)) := bkeep hb3 (by first | assumption | exact cell_new (by with_reducible first | rfl | (simp; done) | (simp; omega)) rfl | (repeat (first | assumption | exact cell_new (by with_reducible first | rfl | (simp; done) | (simp; omega)) rfl | refine cell_alloc ?_ _ | refine cell_drew ?_ | refine cell_drewN ?_ _ | refine cell_far ?_ (by simp) _ | (refine cell_far ?_ (by simp <;> omega) _))) | simp [go_sem, *])
                        have hB : Below w.heap.size w w3 := bthen (by repeat (first | exact Below.refl _ _ | exact hB | refine Below.drew ?_ | refine below_drewN ?_ _ | refine bset ?_ (by simp <;> omega) _ | refine bal ?_ _)) hb3
                        have hz : w.heap.size ≤ w3.heap.size := hB.size
                        go_wp2_with fail
                        refine wp_region_grow (w := w3) (by kernel_rfl) (by kernel_rfl) ?_
                        have g0g : ∀ gs, (grow w3 gs).cell? ⟨w.heap.size, 0, none⟩ = some (.int .i64 s) := fun gs => bkeep gs.below g0
                        have g1g : ∀ gs, (grow w3 gs).cell? ⟨w.heap.size, 1, none⟩ = some (.int .i64 (b : Int)) := fun gs => bkeep gs.below g1
                        repeat (go_big_quiet_step ((first | (go_at_call 21; exact grow_of (norm_pv _ _ _ (by assumption))))))
                        refine wpQuiet_nil ?_
                        intro w4 hb4
                        clear g0g
                        clear g1g
                        have g0 : w4.cell? ⟨w.heap.size, 0, none⟩ = some (.int .i64 s) := bkeep hb4 (by first | assumption | exact cell_new (by with_reducible first | rfl | (simp; done) | (simp; omega)) rfl | (repeat (first | assumption | exact cell_new (by with_reducible first | rfl | (simp; done) | (simp; omega)) rfl | refine cell_alloc ?_ _ | refine cell_drew ?_ | refine cell_drewN ?_ _ | refine cell_far ?_ (by simp) _ | (refine cell_far ?_ (by simp <;> omega) _))) | simp [go_sem, *])
                        have zg0 := cell_lt g0
                        have g1 : w4.cell? ⟨w.heap.size, 1, none⟩ = some (.int .i64 (b : Int)) := bkeep hb4 (by first | assumption | exact cell_new (by with_reducible first | rfl | (simp; done) | (simp; omega)) rfl | (repeat (first | assumption | exact cell_new (by with_reducible first | rfl | (simp; done) | (simp; omega)) rfl | refine cell_alloc ?_ _ | refine cell_drew ?_ | refine cell_drewN ?_ _ | refine cell_far ?_ (by simp) _ | (refine cell_far ?_ (by simp <;> omega) _))) | simp [go_sem, *])
                        have hB : Below w.heap.size w w4 := bthen (by repeat (first | exact Below.refl _ _ | exact hB | refine Below.drew ?_ | refine below_drewN ?_ _ | refine bset ?_ (by simp <;> omega) _ | refine bal ?_ _)) hb4
                        have hz : w.heap.size ≤ w4.heap.size := hB.size
                        go_upto_region 11 with (fail)
                        have hE := Lib.hid (HN.out.trans (congrArg (posI pre0 h b a i ++ ·) R1.out))
                        have hP := Lib.hid (posI_pre pre0 h b a i hlt hla hli)
                        have hlen : (posI pre0 h b a i).length < N := by
                          obtain ⟨q, hq, hq'⟩ := hP.out
                          have e := congrArg List.length (hE.out.symm.trans hq)
                          have := hq'.length_le
                          simp at e
                          omega
                        obtain ⟨fn, tmps, asg, body, hy, hR⟩ := hY (posI pre0 h b a i) (s, (b : Int)) w4 (hJ _ _ _ hJi (grown_of_below hB)) hlen
                        refine (wpIn_wide (n := 4)).1 ?_
                        gi_wp2
                        refine hR.mono ?_
                        rintro e W' (⟨rfl, hJ', hk⟩ | ⟨rfl, hJx'⟩)
                        · gi_wp2
                          go_wp2
                          exact ⟨⟨i + 1, by omega, by go_num, by rw [hE.out]; exact hJ', hK.trans (hK.trans hBW (hK.bel (hB.mono (Nat.le_trans hn0 (hK.size hBW))))) hk⟩, by simp [intOf]; omega⟩
                        · gi_wp2
                          go_wp2
                          go_ret
                          obtain ⟨q, hq, hq'⟩ := hP.out
                          exact Or.inr ⟨rfl, q, hq', by rw [← hq, hE.out]; exact hJx'⟩
                      · have R1 := Lib.hid (show ring1 h a b s = [] from ring1_no (fun k => e4 k.2.2.2))
                        have hn : ∀ w, (binOp .neq 32 (.agg #[.int .i64 (nrm s b).1, .int .i64 (nrm s b).2]) (.agg #[.int .i64 s, .int .i64 (b : Int)])).run Tryd.prog w = .ok (.bool true) w := fun w => by
                          rw [neq_pvg]; congr 2
                          rw [Bool.not_eq_true', Bool.eq_false_iff]; simp only [ne_eq, Bool.and_eq_true, beq_iff_eq]; exact fun k => e4 (Prod.ext k.1 k.2)
                        clear e1 e2 e3 e4 hmx
                        go_wp2
                        refine wp_name fun w2 hW2 => ?_
                        have g0 : w2.cell? ⟨w.heap.size, 0, none⟩ = some (.int .i64 s) := by rw [hW2]; exact (by first | assumption | exact cell_new (by with_reducible first | rfl | (simp; done) | (simp; omega)) rfl | (repeat (first | assumption | exact cell_new (by with_reducible first | rfl | (simp; done) | (simp; omega)) rfl | refine cell_alloc ?_ _ | refine cell_drew ?_ | refine cell_drewN ?_ _ | refine cell_far ?_ (by simp) _ | (refine cell_far ?_ (by simp <;> omega) _))) | simp [go_sem, *])
                        have zg0 := cell_lt g0
                        have g1 : w2.cell? ⟨w.heap.size, 1, none⟩ = some (.int .i64 (b : Int)) := by rw [hW2]; exact (by first | assumption | exact cell_new (by with_reducible first | rfl | (simp; done) | (simp; omega)) rfl | (repeat (first | assumption | exact cell_new (by with_reducible first | rfl | (simp; done) | (simp; omega)) rfl | refine cell_alloc ?_ _ | refine cell_drew ?_ | refine cell_drewN ?_ _ | refine cell_far ?_ (by simp) _ | (refine cell_far ?_ (by simp <;> omega) _))) | simp [go_sem, *])
                        have hB : Below w.heap.size w w2 := by rw [hW2]; repeat (first | exact Below.refl _ _ | exact hB | refine Below.drew ?_ | refine below_drewN ?_ _ | refine bset ?_ (by simp <;> omega) _ | refine bal ?_ _)
                        have hz : w.heap.size ≤ w2.heap.size := hB.size
                        clear hW2
                        refine wp_region_grow (w := w2) (by kernel_rfl) (by kernel_rfl) ?_
                        have g0g : ∀ gs, (grow w2 gs).cell? ⟨w.heap.size, 0, none⟩ = some (.int .i64 s) := fun gs => bkeep gs.below g0
                        have g1g : ∀ gs, (grow w2 gs).cell? ⟨w.heap.size, 1, none⟩ = some (.int .i64 (b : Int)) := fun gs => bkeep gs.below g1
                        repeat (go_big_quiet_step ((first | (go_at_call 21; exact grow_of (norm10 _)))))
                        refine wpQuiet_nil ?_
                        intro w3 hb3
                        clear g0g
                        clear g1g
                        have g0 : w3.cell? ⟨w.heap.size, 0, none⟩ = some (.int .i64 s) := bkeep hb3 (by first | assumption | exact cell_new (by with_reducible first | rfl | (simp; done) | (simp; omega)) rfl | (repeat (first | assumption | exact cell_new (by with_reducible first | rfl | (simp; done) | (simp; omega)) rfl | refine cell_alloc ?_ _ | refine cell_drew ?_ | refine cell_drewN ?_ _ | refine cell_far ?_ (by simp) _ | (refine cell_far ?_ (by simp <;> omega) _))) | simp [go_sem, *])
                        have zg0 := cell_lt g0
                        have g1 : w3.cell? ⟨w.heap.size, 1, none⟩ = some (.int .i64 (b : Int)) := bkeep hb3 (by first | assumption | exact cell_new (by with_reducible first | rfl | (simp; done) | (simp; omega)) rfl | (repeat (first | assumption | exact cell_new (by with_reducible first | rfl | (simp; done) | (simp; omega)) rfl | refine cell_alloc ?_ _ | refine cell_drew ?_ | refine cell_drewN ?_ _ | refine cell_far ?_ (by simp) _ | (refine cell_far ?_ (by simp <;> omega) _))) | simp [go_sem, *])
                        have hB : Below w.heap.size w w3 := bthen (by repeat (first | exact Below.refl _ _ | exact hB | refine Below.drew ?_ | refine below_drewN ?_ _ | refine bset ?_ (by simp <;> omega) _ | refine bal ?_ _)) hb3
                        have hz : w.heap.size ≤ w3.heap.size := hB.size
                        go_wp2_with fail
                        refine wp_region_grow (w := w3) (by kernel_rfl) (by kernel_rfl) ?_
                        have g0g : ∀ gs, (grow w3 gs).cell? ⟨w.heap.size, 0, none⟩ = some (.int .i64 s) := fun gs => bkeep gs.below g0
                        have g1g : ∀ gs, (grow w3 gs).cell? ⟨w.heap.size, 1, none⟩ = some (.int .i64 (b : Int)) := fun gs => bkeep gs.below g1
                        repeat (go_big_quiet_step ((first | (go_at_call 21; exact grow_of (norm_pv _ _ _ (by assumption))))))
                        refine wpQuiet_nil ?_
                        intro w4 hb4
                        clear g0g
                        clear g1g
                        have g0 : w4.cell? ⟨w.heap.size, 0, none⟩ = some (.int .i64 s) := bkeep hb4 (by first | assumption | exact cell_new (by with_reducible first | rfl | (simp; done) | (simp; omega)) rfl | (repeat (first | assumption | exact cell_new (by with_reducible first | rfl | (simp; done) | (simp; omega)) rfl | refine cell_alloc ?_ _ | refine cell_drew ?_ | refine cell_drewN ?_ _ | refine cell_far ?_ (by simp) _ | (refine cell_far ?_ (by simp <;> omega) _))) | simp [go_sem, *])
                        have zg0 := cell_lt g0
                        have g1 : w4.cell? ⟨w.heap.size, 1, none⟩ = some (.int .i64 (b : Int)) := bkeep hb4 (by first | assumption | exact cell_new (by with_reducible first | rfl | (simp; done) | (simp; omega)) rfl | (repeat (first | assumption | exact cell_new (by with_reducible first | rfl | (simp; done) | (simp; omega)) rfl | refine cell_alloc ?_ _ | refine cell_drew ?_ | refine cell_drewN ?_ _ | refine cell_far ?_ (by simp) _ | (refine cell_far ?_ (by simp <;> omega) _))) | simp [go_sem, *])
                        have hB : Below w.heap.size w w4 := bthen (by repeat (first | exact Below.refl _ _ | exact hB | refine Below.drew ?_ | refine below_drewN ?_ _ | refine bset ?_ (by simp <;> omega) _ | refine bal ?_ _)) hb4
                        have hz : w.heap.size ≤ w4.heap.size := hB.size
                        go_wp2
                        exact ⟨SK.out _ R1.out hB, by simp [intOf]; omega⟩
                · have e1' : ((b : Int) != (h : Int)) = true := by simpa using e1
                  have R1 := Lib.hid (show ring1 h a b s = [] from ring1_no (fun k => e1 (by have := k.1; rw [Int.max_def] at this; split at this <;> omega)))
                  clear e1
                  go_wp2
                  exact ⟨SK.out _ R1.out (bal hB _), by simp [intOf]; omega⟩
              ·
                by_cases e1 : (a : Int) = h
                · have e1' : ((a : Int) != (h : Int)) = false := by simpa using e1
                  have hmx : max (a : Int) (b : Int) = h := by rw [Int.max_def]; split <;> omega
                  by_cases e2 : a = 0
                  · have es : s = 0 := by rcases HS.out with h | h <;> omega
                    have R1 := Lib.hid (show ring1 h a b s = [] from ring1_no (fun k => k.2.2.1 (by omega)))
                    have ts : (s == 0) = true := by simpa using es
                    have ta : ((a : Int) == 0) = true := by simp; omega
                    have t3 : (s == 1) = false := by simp; omega
                    have he : ∀ w, (binOp .eql 32 (.agg #[.int .i64 s, .int .i64 (b : Int)]) (.agg #[.int .i64 1, .int .i64 0])).run Tryd.prog w = .ok (.bool false) w := fun w => by rw [eq_pv, t3]; rfl
                    clear e1 e2 es hmx
                    by_cases e3 : b = 1
                    · have tb : ((b : Int) == 1) = true := by simp; omega
                      clear e3
                      go_wp2
                      exact ⟨SK.out _ R1.out (bal hB _), by simp [intOf]; omega⟩
                    · have tb : ((b : Int) == 1) = false := by simp; omega
                      clear e3
                      go_wp2
                      refine wp_name fun w2 hW2 => ?_
                      have g0 : w2.cell? ⟨w.heap.size, 0, none⟩ = some (.int .i64 s) := by rw [hW2]; exact (by first | assumption | exact cell_new (by with_reducible first | rfl | (simp; done) | (simp; omega)) rfl | (repeat (first | assumption | exact cell_new (by with_reducible first | rfl | (simp; done) | (simp; omega)) rfl | refine cell_alloc ?_ _ | refine cell_drew ?_ | refine cell_drewN ?_ _ | refine cell_far ?_ (by simp) _ | (refine cell_far ?_ (by simp <;> omega) _))) | simp [go_sem, *])
                      have zg0 := cell_lt g0
                      have g1 : w2.cell? ⟨w.heap.size, 1, none⟩ = some (.int .i64 (b : Int)) := by rw [hW2]; exact (by first | assumption | exact cell_new (by with_reducible first | rfl | (simp; done) | (simp; omega)) rfl | (repeat (first | assumption | exact cell_new (by with_reducible first | rfl | (simp; done) | (simp; omega)) rfl | refine cell_alloc ?_ _ | refine cell_drew ?_ | refine cell_drewN ?_ _ | refine cell_far ?_ (by simp) _ | (refine cell_far ?_ (by simp <;> omega) _))) | simp [go_sem, *])
                      have hB : Below w.heap.size w w2 := by rw [hW2]; repeat (first | exact Below.refl _ _ | exact hB | refine Below.drew ?_ | refine below_drewN ?_ _ | refine bset ?_ (by simp <;> omega) _ | refine bal ?_ _)
                      have hz : w.heap.size ≤ w2.heap.size := hB.size
                      clear hW2
                      refine wp_region_grow (w := w2) (by kernel_rfl) (by kernel_rfl) ?_
                      have g0g : ∀ gs, (grow w2 gs).cell? ⟨w.heap.size, 0, none⟩ = some (.int .i64 s) := fun gs => bkeep gs.below g0
                      have g1g : ∀ gs, (grow w2 gs).cell? ⟨w.heap.size, 1, none⟩ = some (.int .i64 (b : Int)) := fun gs => bkeep gs.below g1
                      repeat (go_big_quiet_step ((first | (go_at_call 21; exact grow_of (norm10 _)))))
                      refine wpQuiet_nil ?_
                      intro w3 hb3
                      clear g0g
                      clear g1g
                      have g0 : w3.cell? ⟨w.heap.size, 0, none⟩ = some (.int .i64 s) := bkeep hb3 (by first | assumption | exact cell_new (by with_reducible first | rfl | (simp; done) | (simp; omega)) rfl | (repeat (first | assumption | exact cell_new (by with_reducible first | rfl | (simp; done) | (simp; omega)) rfl | refine cell_alloc ?_ _ | refine cell_drew ?_ | refine cell_drewN ?_ _ | refine cell_far ?_ (by simp) _ | (refine cell_far ?_ (by simp <;> omega) _))) | simp [go_sem, *])
                      have zg0 := cell_lt g0
                      have g1 : w3.cell? ⟨w.heap.size, 1, none⟩ = some (.int .i64 (b : Int)) := bkeep hb3 (by first | assumption | exact cell_new (by with_reducible first | rfl | (simp; done) | (simp; omega)) rfl | (repeat (first | assumption | exact cell_new (by with_reducible first | rfl | (simp; done) | (simp; omega)) rfl | refine cell_alloc ?_ _ | refine cell_drew ?_ | refine cell_drewN ?_ _ | refine cell_far ?_ (by simp) _ | (refine cell_far ?_ (by simp <;> omega) _))) | simp [go_sem, *])
                      have hB : Below w.heap.size w w3 := bthen (by repeat (first | exact Below.refl _ _ | exact hB | refine Below.drew ?_ | refine below_drewN ?_ _ | refine bset ?_ (by simp <;> omega) _ | refine bal ?_ _)) hb3
                      have hz : w.heap.size ≤ w3.heap.size := hB.size
                      go_wp2
                      exact ⟨SK.out _ R1.out hB, by simp [intOf]; omega⟩
                  · have ts : (s == 0) = false := by simp; rcases HS.out with h | h <;> omega
                    have ta : ((a : Int) == 0) = false := by simp; omega
                    by_cases e3 : s = 1 ∧ (b : Int) = 0
                    · have R1 := Lib.hid (show ring1 h a b s = [] from ring1_no (fun k => k.2.1 e3))
                      have he : ∀ w, (binOp .eql 32 (.agg #[.int .i64 s, .int .i64 (b : Int)]) (.agg #[.int .i64 1, .int .i64 0])).run Tryd.prog w = .ok (.bool true) w := fun w => by rw [eq_pv, e3.1, e3.2]; rfl
                      clear e1 e2 e3 hmx
                      go_wp2
                      refine wp_name fun w2 hW2 => ?_
                      have g0 : w2.cell? ⟨w.heap.size, 0, none⟩ = some (.int .i64 s) := by rw [hW2]; exact (by first | assumption | exact cell_new (by with_reducible first | rfl | (simp; done) | (simp; omega)) rfl | (repeat (first | assumption | exact cell_new (by with_reducible first | rfl | (simp; done) | (simp; omega)) rfl | refine cell_alloc ?_ _ | refine cell_drew ?_ | refine cell_drewN ?_ _ | refine cell_far ?_ (by simp) _ | (refine cell_far ?_ (by simp <;> omega) _))) | simp [go_sem, *])
                      have zg0 := cell_lt g0
                      have g1 : w2.cell? ⟨w.heap.size, 1, none⟩ = some (.int .i64 (b : Int)) := by rw [hW2]; exact (by first | assumption | exact cell_new (by with_reducible first | rfl | (simp; done) | (simp; omega)) rfl | (repeat (first | assumption | exact cell_new (by with_reducible first | rfl | (simp; done) | (simp; omega)) rfl | refine cell_alloc ?_ _ | refine cell_drew ?_ | refine cell_drewN ?_ _ | refine cell_far ?_ (by simp) _ | (refine cell_far ?_ (by simp <;> omega) _))) | simp [go_sem, *])
                      have hB : Below w.heap.size w w2 := by rw [hW2]; repeat (first | exact Below.refl _ _ | exact hB | refine Below.drew ?_ | refine below_drewN ?_ _ | refine bset ?_ (by simp <;> omega) _ | refine bal ?_ _)
                      have hz : w.heap.size ≤ w2.heap.size := hB.size
                      clear hW2
                      refine wp_region_grow (w := w2) (by kernel_rfl) (by kernel_rfl) ?_
                      have g0g : ∀ gs, (grow w2 gs).cell? ⟨w.heap.size, 0, none⟩ = some (.int .i64 s) := fun gs => bkeep gs.below g0
                      have g1g : ∀ gs, (grow w2 gs).cell? ⟨w.heap.size, 1, none⟩ = some (.int .i64 (b : Int)) := fun gs => bkeep gs.below g1
                      repeat (go_big_quiet_step ((first | (go_at_call 21; exact grow_of (norm10 _)))))
                      refine wpQuiet_nil ?_
                      intro w3 hb3
                      clear g0g
                      clear g1g
                      have g0 : w3.cell? ⟨w.heap.size, 0, none⟩ = some (.int .i64 s) := bkeep hb3 (by first | assumption | exact cell_new (by with_reducible first | rfl | (simp; done) | (simp; omega)) rfl | (repeat (first | assumption | exact cell_new (by with_reducible first | rfl | (simp; done) | (simp; omega)) rfl | refine cell_alloc ?_ _ | refine cell_drew ?_ | refine cell_drewN ?_ _ | refine cell_far ?_ (by simp) _ | (refine cell_far ?_ (by simp <;> omega) _))) | simp [go_sem, *])
                      have zg0 := cell_lt g0
                      have g1 : w3.cell? ⟨w.heap.size, 1, none⟩ = some (.int .i64 (b : Int)) := bkeep hb3 (by first | assumption | exact cell_new (by with_reducible first | rfl | (simp; done) | (simp; omega)) rfl | (repeat (first | assumption | exact cell_new (by with_reducible first | rfl | (simp; done) | (simp; omega)) rfl | refine cell_alloc ?_ _ | refine cell_drew ?_ | refine cell_drewN ?_ _ | refine cell_far ?_ (by simp) _ | (refine cell_far ?_ (by simp <;> omega) _))) | simp [go_sem, *])
                      have hB : Below w.heap.size w w3 := bthen (by repeat (first | exact Below.refl _ _ | exact hB | refine Below.drew ?_ | refine below_drewN ?_ _ | refine bset ?_ (by simp <;> omega) _ | refine bal ?_ _)) hb3
                      have hz : w.heap.size ≤ w3.heap.size := hB.size
                      go_wp2
                      exact ⟨SK.out _ R1.out hB, by simp [intOf]; omega⟩
                    · have he : ∀ w, (binOp .eql 32 (.agg #[.int .i64 s, .int .i64 (b : Int)]) (.agg #[.int .i64 1, .int .i64 0])).run Tryd.prog w = .ok (.bool false) w := fun w => by
                        rw [eq_pv]; congr 2; rw [Bool.eq_false_iff]; simp only [ne_eq, Bool.and_eq_true, beq_iff_eq]; exact e3
                      by_cases e4 : nrm s b = (s, (b : Int))
                      · have R1 := Lib.hid (ring1_yes ⟨hmx, e3, (by omega : (a : Int) ≠ 0), e4⟩)
                        have hn : ∀ w, (binOp .neq 32 (.agg #[.int .i64 (nrm s b).1, .int .i64 (nrm s b).2]) (.agg #[.int .i64 s, .int .i64 (b : Int)])).run Tryd.prog w = .ok (.bool false) w := fun w => by rw [neq_pvg, e4]; simp
                        clear e1 e2 e3 e4 hmx
                        go_wp2
                        refine wp_name fun w2 hW2 => ?_
                        have g0 : w2.cell? ⟨w.heap.size, 0, none⟩ = some (.int .i64 s) := by rw [hW2]; exact (by first | assumption | exact cell_new (by with_reducible first | rfl | (simp; done) | (simp; omega)) rfl | (repeat (first | assumption | exact cell_new (by with_reducible first | rfl | (simp; done) | (simp; omega)) rfl | refine cell_alloc ?_ _ | refine cell_drew ?_ | refine cell_drewN ?_ _ | refine cell_far ?_ (by simp) _ | (refine cell_far ?_ (by simp <;> omega) _))) | simp [go_sem, *])
                        have zg0 := cell_lt g0
                        have g1 : w2.cell? ⟨w.heap.size, 1, none⟩ = some (.int .i64 (b : Int)) := by rw [hW2]; exact (by first | assumption | exact cell_new (by with_reducible first | rfl | (simp; done) | (simp; omega)) rfl | (repeat (first | assumption | exact cell_new (by with_reducible first | rfl | (simp; done) | (simp; omega)) rfl | refine cell_alloc ?_ _ | refine cell_drew ?_ | refine cell_drewN ?_ _ | refine cell_far ?_ (by simp) _ | (refine cell_far ?_ (by simp <;> omega) _))) | simp [go_sem, *])
                        have hB : Below w.heap.size w w2 := by rw [hW2]; repeat (first | exact Below.refl _ _ | exact hB | refine Below.drew ?_ | refine below_drewN ?_ _ | refine bset ?_ (by simp <;> omega) _ | refine bal ?_ _)
                        have hz : w.heap.size ≤ w2.heap.size := hB.size
                        clear hW2
                        refine wp_region_grow (w := w2) (by kernel_rfl) (by kernel_rfl) ?_
                        have g0g : ∀ gs, (grow w2 gs).cell? ⟨w.heap.size, 0, none⟩ = some (.int .i64 s) := fun gs => bkeep gs.below g0
                        have g1g : ∀ gs, (grow w2 gs).cell? ⟨w.heap.size, 1, none⟩ = some (.int .i64 (b : Int)) := fun gs => bkeep gs.below g1
                        repeat (go_big_quiet_step ((first | (go_at_call 21; exact grow_of (norm10 _)))))
                        refine wpQuiet_nil ?_
                        intro w3 hb3
                        clear g0g
                        clear g1g
                        have g0 : w3.cell? ⟨w.heap.size, 0, none⟩ = some (.int .i64 s) := bkeep hb3 (by first | assumption | exact cell_new (by with_reducible first | rfl | (simp; done) | (simp; omega)) rfl | (repeat (first | assumption | exact cell_new (by with_reducible first | rfl | (simp; done) | (simp; omega)) rfl | refine cell_alloc ?_ _ | refine cell_drew ?_ | refine cell_drewN ?_ _ | refine cell_far ?_ (by simp) _ | (refine cell_far ?_ (by simp <;> omega) _))) | simp [go_sem, *])
                        have zg0 := cell_lt g0
                        have g1 : w3.cell? ⟨w.heap.size, 1, none⟩ = some (.int .i64 (b : Int)) := bkeep hb3 (by first | assumption | exact cell_new (by with_reducible first | rfl | (simp; done) | (simp; omega)) rfl | (repeat (first | assumption | exact cell_new (by with_reducible first | rfl | (simp; done) | (simp; omega)) rfl | refine cell_alloc ?_ _ | refine cell_drew ?_ | refine cell_drewN ?_ _ | refine cell_far ?_ (by simp) _ | (refine cell_far ?_ (by simp <;> omega) _))) | simp [go_sem, *])
                        have hB : Below w.heap.size w w3 := bthen (by repeat (first | exact Below.refl _ _ | exact hB | refine Below.drew ?_ | refine below_drewN ?_ _ | refine bset ?_ (by simp <;> omega) _ | refine bal ?_ _)) hb3
                        have hz : w.heap.size ≤ w3.heap.size := hB.size
                        go_wp2_with fail
                        refine wp_region_grow (w := w3) (by kernel_rfl) (by kernel_rfl) ?_
                        have g0g : ∀ gs, (grow w3 gs).cell? ⟨w.heap.size, 0, none⟩ = some (.int .i64 s) := fun gs => bkeep gs.below g0
                        have g1g : ∀ gs, (grow w3 gs).cell? ⟨w.heap.size, 1, none⟩ = some (.int .i64 (b : Int)) := fun gs => bkeep gs.below g1
                        repeat (go_big_quiet_step ((first | (go_at_call 21; exact grow_of (norm_pv _ _ _ (by assumption))))))
                        refine wpQuiet_nil ?_
                        intro w4 hb4
                        clear g0g
                        clear g1g
                        have g0 : w4.cell? ⟨w.heap.size, 0, none⟩ = some (.int .i64 s) := bkeep hb4 (by first | assumption | exact cell_new (by with_reducible first | rfl | (simp; done) | (simp; omega)) rfl | (repeat (first | assumption | exact cell_new (by with_reducible first | rfl | (simp; done) | (simp; omega)) rfl | refine cell_alloc ?_ _ | refine cell_drew ?_ | refine cell_drewN ?_ _ | refine cell_far ?_ (by simp) _ | (refine cell_far ?_ (by simp <;> omega) _))) | simp [go_sem, *])
                        have zg0 := cell_lt g0
                        have g1 : w4.cell? ⟨w.heap.size, 1, none⟩ = some (.int .i64 (b : Int)) := bkeep hb4 (by first | assumption | exact cell_new (by with_reducible first | rfl | (simp; done) | (simp; omega)) rfl | (repeat (first | assumption | exact cell_new (by with_reducible first | rfl | (simp; done) | (simp; omega)) rfl | refine cell_alloc ?_ _ | refine cell_drew ?_ | refine cell_drewN ?_ _ | refine cell_far ?_ (by simp) _ | (refine cell_far ?_ (by simp <;> omega) _))) | simp [go_sem, *])
                        have hB : Below w.heap.size w w4 := bthen (by repeat (first | exact Below.refl _ _ | exact hB | refine Below.drew ?_ | refine below_drewN ?_ _ | refine bset ?_ (by simp <;> omega) _ | refine bal ?_ _)) hb4
                        have hz : w.heap.size ≤ w4.heap.size := hB.size
                        go_upto_region 11 with (fail)
                        have hE := Lib.hid (HN.out.trans (congrArg (posI pre0 h b a i ++ ·) R1.out))
                        have hP := Lib.hid (posI_pre pre0 h b a i hlt hla hli)
                        have hlen : (posI pre0 h b a i).length < N := by
                          obtain ⟨q, hq, hq'⟩ := hP.out
                          have e := congrArg List.length (hE.out.symm.trans hq)
                          have := hq'.length_le
                          simp at e
                          omega
                        obtain ⟨fn, tmps, asg, body, hy, hR⟩ := hY (posI pre0 h b a i) (s, (b : Int)) w4 (hJ _ _ _ hJi (grown_of_below hB)) hlen
                        refine (wpIn_wide (n := 4)).1 ?_
                        gi_wp2
                        refine hR.mono ?_
                        rintro e W' (⟨rfl, hJ', hk⟩ | ⟨rfl, hJx'⟩)
                        · gi_wp2
                          go_wp2
                          exact ⟨⟨i + 1, by omega, by go_num, by rw [hE.out]; exact hJ', hK.trans (hK.trans hBW (hK.bel (hB.mono (Nat.le_trans hn0 (hK.size hBW))))) hk⟩, by simp [intOf]; omega⟩
                        · gi_wp2
                          go_wp2
                          go_ret
                          obtain ⟨q, hq, hq'⟩ := hP.out
                          exact Or.inr ⟨rfl, q, hq', by rw [← hq, hE.out]; exact hJx'⟩
                      · have R1 := Lib.hid (show ring1 h a b s = [] from ring1_no (fun k => e4 k.2.2.2))
                        have hn : ∀ w, (binOp .neq 32 (.agg #[.int .i64 (nrm s b).1, .int .i64 (nrm s b).2]) (.agg #[.int .i64 s, .int .i64 (b : Int)])).run Tryd.prog w = .ok (.bool true) w := fun w => by
                          rw [neq_pvg]; congr 2
                          rw [Bool.not_eq_true', Bool.eq_false_iff]; simp only [ne_eq, Bool.and_eq_true, beq_iff_eq]; exact fun k => e4 (Prod.ext k.1 k.2)
                        clear e1 e2 e3 e4 hmx
                        go_wp2
                        refine wp_name fun w2 hW2 => ?_
                        have g0 : w2.cell? ⟨w.heap.size, 0, none⟩ = some (.int .i64 s) := by rw [hW2]; exact (by first | assumption | exact cell_new (by with_reducible first | rfl | (simp; done) | (simp; omega)) rfl | (repeat (first | assumption | exact cell_new (by with_reducible first | rfl | (simp; done) | (simp; omega)) rfl | refine cell_alloc ?_ _ | refine cell_drew ?_ | refine cell_drewN ?_ _ | refine cell_far ?_ (by simp) _ | (refine cell_far ?_ (by simp <;> omega) _))) | simp [go_sem, *])
                        have zg0 := cell_lt g0
                        have g1 : w2.cell? ⟨w.heap.size, 1, none⟩ = some (.int .i64 (b : Int)) := by rw [hW2]; exact (by first | assumption | exact cell_new (by with_reducible first | rfl | (simp; done) | (simp; omega)) rfl | (repeat (first | assumption | exact cell_new (by with_reducible first | rfl | (simp; done) | (simp; omega)) rfl | refine cell_alloc ?_ _ | refine cell_drew ?_ | refine cell_drewN ?_ _ | refine cell_far ?_ (by simp) _ | (refine cell_far ?_ (by simp <;> omega) _))) | simp [go_sem, *])
                        have hB : Below w.heap.size w w2 := by rw [hW2]; repeat (first | exact Below.refl _ _ | exact hB | refine Below.drew ?_ | refine below_drewN ?_ _ | refine bset ?_ (by simp <;> omega) _ | refine bal ?_ _)
                        have hz : w.heap.size ≤ w2.heap.size := hB.size
                        clear hW2
                        refine wp_region_grow (w := w2) (by kernel_rfl) (by kernel_rfl) ?_
                        have g0g : ∀ gs, (grow w2 gs).cell? ⟨w.heap.size, 0, none⟩ = some (.int .i64 s) := fun gs => bkeep gs.below g0
                        have g1g : ∀ gs, (grow w2 gs).cell? ⟨w.heap.size, 1, none⟩ = some (.int .i64 (b : Int)) := fun gs => bkeep gs.below g1
                        repeat (go_big_quiet_step ((first | (go_at_call 21; exact grow_of (norm10 _)))))
                        refine wpQuiet_nil ?_
                        intro w3 hb3
                        clear g0g
                        clear g1g
                        have g0 : w3.cell? ⟨w.heap.size, 0, none⟩ = some (.int .i64 s) := bkeep hb3 (by first | assumption | exact cell_new (by with_reducible first | rfl | (simp; done) | (simp; omega)) rfl | (repeat (first | assumption | exact cell_new (by with_reducible first | rfl | (simp; done) | (simp; omega)) rfl | refine cell_alloc ?_ _ | refine cell_drew ?_ | refine cell_drewN ?_ _ | refine cell_far ?_ (by simp) _ | (refine cell_far ?_ (by simp <;> omega) _))) | simp [go_sem, *])
                        have zg0 := cell_lt g0
                        have g1 : w3.cell? ⟨w.heap.size, 1, none⟩ = some (.int .i64 (b : Int)) := bkeep hb3 (by first | assumption | exact cell_new (by with_reducible first | rfl | (simp; done) | (simp; omega)) rfl | (repeat (first | assumption | exact cell_new (by with_reducible first | rfl | (simp; done) | (simp; omega)) rfl | refine cell_alloc ?_ _ | refine cell_drew ?_ | refine cell_drewN ?_ _ | refine cell_far ?_ (by simp) _ | (refine cell_far ?_ (by simp <;> omega) _))) | simp [go_sem, *])
                        have hB : Below w.heap.size w w3 := bthen (by repeat (first | exact Below.refl _ _ | exact hB | refine Below.drew ?_ | refine below_drewN ?_ _ | refine bset ?_ (by simp <;> omega) _ | refine bal ?_ _)) hb3
                        have hz : w.heap.size ≤ w3.heap.size := hB.size
                        go_wp2_with fail
                        refine wp_region_grow (w := w3) (by kernel_rfl) (by kernel_rfl) ?_
                        have g0g : ∀ gs, (grow w3 gs).cell? ⟨w.heap.size, 0, none⟩ = some (.int .i64 s) := fun gs => bkeep gs.below g0
                        have g1g : ∀ gs, (grow w3 gs).cell? ⟨w.heap.size, 1, none⟩ = some (.int .i64 (b : Int)) := fun gs => bkeep gs.below g1
                        repeat (go_big_quiet_step ((first | (go_at_call 21; exact grow_of (norm_pv _ _ _ (by assumption))))))
                        refine wpQuiet_nil ?_
                        intro w4 hb4
                        clear g0g
                        clear g1g
                        have g0 : w4.cell? ⟨w.heap.size, 0, none⟩ = some (.int .i64 s) := bkeep hb4 (by first | assumption | exact cell_new (by with_reducible first | rfl | (simp; done) | (simp; omega)) rfl | (repeat (first | assumption | exact cell_new (by with_reducible first | rfl | (simp; done) | (simp; omega)) rfl | refine cell_alloc ?_ _ | refine cell_drew ?_ | refine cell_drewN ?_ _ | refine cell_far ?_ (by simp) _ | (refine cell_far ?_ (by simp <;> omega) _))) | simp [go_sem, *])
                        have zg0 := cell_lt g0
                        have g1 : w4.cell? ⟨w.heap.size, 1, none⟩ = some (.int .i64 (b : Int)) := bkeep hb4 (by first | assumption | exact cell_new (by with_reducible first | rfl | (simp; done) | (simp; omega)) rfl | (repeat (first | assumption | exact cell_new (by with_reducible first | rfl | (simp; done) | (simp; omega)) rfl | refine cell_alloc ?_ _ | refine cell_drew ?_ | refine cell_drewN ?_ _ | refine cell_far ?_ (by simp) _ | (refine cell_far ?_ (by simp <;> omega) _))) | simp [go_sem, *])
                        have hB : Below w.heap.size w w4 := bthen (by repeat (first | exact Below.refl _ _ | exact hB | refine Below.drew ?_ | refine below_drewN ?_ _ | refine bset ?_ (by simp <;> omega) _ | refine bal ?_ _)) hb4
                        have hz : w.heap.size ≤ w4.heap.size := hB.size
                        go_wp2
                        exact ⟨SK.out _ R1.out hB, by simp [intOf]; omega⟩
                · have e1' : ((a : Int) != (h : Int)) = true := by simpa using e1
                  have R1 := Lib.hid (show ring1 h a b s = [] from ring1_no (fun k => e1 (by have := k.1; rw [Int.max_def] at this; split at this <;> omega)))
                  clear e1
                  go_wp2
                  exact ⟨SK.out _ R1.out (bal hB _), by simp [intOf]; omega⟩
            · obtain rfl : i = 2 := by omega
              go_wp2
              go_roundw
              case rel => exact ⟨a + 1, by omega, by go_num, by rw [← posI_2]; exact hJi, hBW⟩
              case measure => simp [intOf]; omega
        · obtain rfl : a = h + 1 := by omega
          go_wp2
          go_roundw
          case rel => exact ⟨b + 1, by omega, by go_num, by rw [← posA_h]; exact hJa, hB⟩
          case measure => simp [intOf]; omega
    · obtain rfl : b = h + 1 := by omega
      go_wp2
      go_ret
      exact .inl ⟨rfl, hJb, hB⟩
end Go.Proofs.YtphhjkclokjboaaDoor
