/- The first two points that are one: both searches. -/
import Derived.Test.YtefoljempkpmgaaPtE
import Derived.Test.YtefoljempkpmgaaOpens
namespace Go.Proofs.Ytefoljempkpmgaa
open Pt
open Go.ChangeShapes Go.WideShapes Go.ChangeAt Go.RowKit
set_option linter.unusedVariables false
set_option linter.unusedSimpArgs false

/-- both are in, and they are one -/
def twin (p q : Int × Int) : Bool := inB p.1 p.2 && (inB q.1 q.2 && one p.1 p.2 q.1 q.2)
/-- no two are one, the second before place j -/
def NoTw (f : Nat → Int × Int) (j : Nat) : Prop := ∀ j', j' < j → ∀ i, i < j' → twin (f i) (f j') = false
/-- none before place i is one with place j -/
def NoTwAt (f : Nat → Int × Int) (j i : Nat) : Prop := ∀ i', i' < i → twin (f i') (f j) = false
theorem NoTw.next {f : Nat → Int × Int} {j : Nat} (h : NoTw f j) (k : NoTwAt f j j) : NoTw f (j + 1) := by
  intro j' hj i hi
  by_cases e : j' = j
  · subst e; exact k i hi
  · exact h j' (by omega) i hi
theorem NoTwAt.next {f : Nat → Int × Int} {j i : Nat} (h : NoTwAt f j i) (k : twin (f i) (f j) = false) : NoTwAt f j (i + 1) := by
  intro i' hi
  by_cases e : i' = i
  · subst e; exact k
  · exact h i' (by omega)
/-- what both searches answer -/
def TwRes (f : Nat → Int × Int) (n : Nat) (x y : Int) (ok : Bool) : Prop :=
  (ok = true ∧ ∃ i j : Nat, x = i ∧ y = j ∧ i < j ∧ j < n ∧ twin (f i) (f j) = true ∧ NoTw f j ∧ NoTwAt f j i) ∨ (ok = false ∧ x = 0 ∧ y = 0 ∧ NoTw f n)
theorem TwRes.unique {f : Nat → Int × Int} {n : Nat} {x y x' y' : Int} {ok ok' : Bool} (h : TwRes f n x y ok) (k : TwRes f n x' y' ok') : x = x' ∧ y = y' ∧ ok = ok' := by
  rcases h with ⟨rfl, i, j, rfl, rfl, hij, hjn, ht, hn, ha⟩ | ⟨rfl, rfl, rfl, hn⟩
  · rcases k with ⟨rfl, i', j', rfl, rfl, hij', hjn', ht', hn', ha'⟩ | ⟨rfl, rfl, rfl, hn'⟩
    · have e : j = j' := by
        rcases Nat.lt_trichotomy j j' with h | h | h
        · have := hn' j h i hij; rw [ht] at this; cases this
        · exact h
        · have := hn j' h i' hij'; rw [ht'] at this; cases this
      subst e
      have e : i = i' := by
        rcases Nat.lt_trichotomy i i' with h | h | h
        · have := ha' i h; rw [ht] at this; cases this
        · exact h
        · have := ha i' h; rw [ht'] at this; cases this
      subst e
      exact ⟨rfl, rfl, rfl⟩
    · have := hn' j hjn i hij; rw [ht] at this; cases this
  · rcases k with ⟨rfl, i', j', rfl, rfl, hij', hjn', ht', hn', ha'⟩ | ⟨rfl, rfl, rfl, hn'⟩
    · have := hn j' hjn' i' hij'; rw [ht'] at this; cases this
    · exact ⟨rfl, rfl, rfl⟩

theorem ptOne_v (a b c d : Int) (v : Bool) (w : World) (hv : twin (a, b) (c, d) = v) :
    Calls Try.prog 14 #[pv a b, pv c d] w fun e w' => (∃ n, e = .returned (.tuple #[.bool v, .int .i64 n])) ∧ Below w.heap.size w w' := by
  by_cases h : PIn a b ∧ PIn c d
  · have : twin (a, b) (c, d) = one a b c d := by simp [twin, inB_yes h.1, inB_yes h.2]
    rw [← hv, this]
    exact (ptOne_yes a b c d w h.1 h.2).mono fun e w' k => ⟨⟨_, k.1⟩, k.2⟩
  · have : twin (a, b) (c, d) = false := by
      unfold twin
      by_cases h1 : PIn a b
      · simp [inB_no (fun k => h ⟨h1, k⟩)]
      · simp [inB_no h1]
    rw [← hv, this]
    exact (ptOne_no a b c d w h).mono fun e w' k => ⟨⟨_, k.1⟩, k.2⟩

/-- an ending of three results -/
def Ret3 (R : Int → Int → Bool → Prop) (e : Ending) : Prop := ∃ x y ok, e = .returned (.tuple #[.int .i64 x, .int .i64 y, .bool ok]) ∧ R x y ok

set_option maxHeartbeats 1000000 in
theorem ptTwins_c (b off n cap : Nat) (f : Nat → Int × Int) (w : World) (hn : n ≤ 300) (hcap : n ≤ cap) (hc : PtsIn w b off n f) :
    Calls Try.prog 19 #[.slice (some ⟨b, off, none⟩) n cap] w fun e w' => Ret3 (TwRes f n) e ∧ Below w.heap.size w w' := by
  go_enter Try.func19, Try.ntmps19
  go_wp2
  go_loopw [13] (fun i wr => ∃ j : Nat, j ≤ n ∧ i = .int .i64 j ∧ NoTw f j ∧ Below w.heap.size w wr) (fun i _ => n - (intOf i).toNat)
  case atStart => exact ⟨0, by omega, rfl, (fun j' hj => by omega), Below.refl _ _⟩
  case round =>
    obtain ⟨j, hj, rfl, hN, hB⟩ := hrel
    by_cases hlt : j < n
    · obtain ⟨c0, c1⟩ := hc j hlt
      replace c0 := bkeep hB c0
      replace c1 := bkeep hB c1
      have zb := cell_lt c0
      generalize hq : f j = q at *
      obtain ⟨q1, q2⟩ := q
      have HQ := Lib.hid hq; clear hq
      go_wp2
      have hBW := bal hB (.cells #[.int .i64 q1, .int .i64 q2] 23)
      go_loopw [22] (fun i wi => ∃ k : Nat, k ≤ j ∧ i = .int .i64 k ∧ NoTwAt f j k ∧ wi.cell? ⟨wr.heap.size, 0, none⟩ = some (.int .i64 q1) ∧ wi.cell? ⟨wr.heap.size, 1, none⟩ = some (.int .i64 q2) ∧ Below w.heap.size w wi) (fun i _ => j - (intOf i).toNat)
      case atStart => exact ⟨0, by omega, rfl, (fun j' hj => by omega), cell_new rfl rfl, cell_new rfl rfl, hBW⟩
      case round =>
        rename World => wi
        obtain ⟨k, hk, rfl, hA, d0, d1, hB⟩ := hrel
        by_cases hkj : k < j
        · obtain ⟨c0, c1⟩ := hc k (by omega)
          replace c0 := bkeep hB c0
          replace c1 := bkeep hB c1
          have zc := cell_lt c0
          have zd := cell_lt d0
          generalize hp : f k = p at *
          obtain ⟨p1, p2⟩ := p
          have HP := Lib.hid hp; clear hp
          dsimp only at c0 c1
          clear hBW
          obtain ⟨v, hv⟩ : ∃ v, twin (p1, p2) (q1, q2) = v := ⟨_, rfl⟩
          have oc := fun w => ptOne_v p1 p2 q1 q2 v w hv
          have HV := Lib.hid hv; clear hv
          cases v
          ·
            go_wp2_with fail
            refine (oc _).mono ?_
            rintro e w1 ⟨⟨n1, rfl⟩, hb1⟩
            have d0 : w1.cell? ⟨wr.heap.size, 0, none⟩ = some (.int .i64 q1) := bkeep hb1 (by first | assumption | exact cell_new (by with_reducible first | rfl | (simp; done) | (simp; omega)) rfl | (repeat (first | assumption | exact cell_new (by with_reducible first | rfl | (simp; done) | (simp; omega)) rfl | refine cell_alloc ?_ _ | refine cell_drew ?_ | refine cell_drewN ?_ _ | refine cell_far ?_ (by simp) _ | (refine cell_far ?_ (by simp <;> omega) _))) | simp [go_sem, *])
            have zd0 := cell_lt d0
            have d1 : w1.cell? ⟨wr.heap.size, 1, none⟩ = some (.int .i64 q2) := bkeep hb1 (by first | assumption | exact cell_new (by with_reducible first | rfl | (simp; done) | (simp; omega)) rfl | (repeat (first | assumption | exact cell_new (by with_reducible first | rfl | (simp; done) | (simp; omega)) rfl | refine cell_alloc ?_ _ | refine cell_drew ?_ | refine cell_drewN ?_ _ | refine cell_far ?_ (by simp) _ | (refine cell_far ?_ (by simp <;> omega) _))) | simp [go_sem, *])
            have hB : Below w.heap.size w w1 := bthen (by repeat (first | exact Below.refl _ _ | exact hB | refine Below.drew ?_ | refine below_drewN ?_ _ | refine bset ?_ (by simp <;> omega) _ | refine bal ?_ _)) hb1
            have hz : w.heap.size ≤ w1.heap.size := hB.size
            clear hb1
            go_wp2
            go_roundw
            case rel => exact ⟨k + 1, by omega, by go_num, hA.next (by rw [HP.out, HQ.out]; exact HV.out), d0, d1, hB⟩
            case measure => simp [intOf]; omega
          ·
            go_wp2_with fail
            refine (oc _).mono ?_
            rintro e w1 ⟨⟨n1, rfl⟩, hb1⟩
            have d0 : w1.cell? ⟨wr.heap.size, 0, none⟩ = some (.int .i64 q1) := bkeep hb1 (by first | assumption | exact cell_new (by with_reducible first | rfl | (simp; done) | (simp; omega)) rfl | (repeat (first | assumption | exact cell_new (by with_reducible first | rfl | (simp; done) | (simp; omega)) rfl | refine cell_alloc ?_ _ | refine cell_drew ?_ | refine cell_drewN ?_ _ | refine cell_far ?_ (by simp) _ | (refine cell_far ?_ (by simp <;> omega) _))) | simp [go_sem, *])
            have zd0 := cell_lt d0
            have d1 : w1.cell? ⟨wr.heap.size, 1, none⟩ = some (.int .i64 q2) := bkeep hb1 (by first | assumption | exact cell_new (by with_reducible first | rfl | (simp; done) | (simp; omega)) rfl | (repeat (first | assumption | exact cell_new (by with_reducible first | rfl | (simp; done) | (simp; omega)) rfl | refine cell_alloc ?_ _ | refine cell_drew ?_ | refine cell_drewN ?_ _ | refine cell_far ?_ (by simp) _ | (refine cell_far ?_ (by simp <;> omega) _))) | simp [go_sem, *])
            have hB : Below w.heap.size w w1 := bthen (by repeat (first | exact Below.refl _ _ | exact hB | refine Below.drew ?_ | refine below_drewN ?_ _ | refine bset ?_ (by simp <;> omega) _ | refine bal ?_ _)) hb1
            have hz : w.heap.size ≤ w1.heap.size := hB.size
            clear hb1
            go_wp2
            go_ret3
            exact ⟨⟨_, _, _, rfl, .inl ⟨rfl, k, j, rfl, rfl, hkj, hlt, by rw [HP.out, HQ.out]; exact HV.out, hN, hA⟩⟩, hB⟩
        · obtain rfl : k = j := by omega
          go_wp2
          go_roundw
          case rel => exact ⟨k + 1, by omega, by go_num, hN.next hA, hB⟩
          case measure => simp [intOf]; omega
    · obtain rfl : j = n := by omega
      go_wp2
      go_ret3
      exact ⟨⟨_, _, _, rfl, .inr ⟨rfl, rfl, rfl, hN⟩⟩, hB⟩

theorem refIn_v (a b : Int) (v : Bool) (w : World) (hv : inB a b = v) : Calls Try.prog 9 #[pv a b] w fun e w' => e = .returned (.bool v) ∧ Below w.heap.size w w' := by rw [← hv]; exact refIn_c a b w
theorem refOne_v (a b c d : Int) (v : Bool) (w : World) (h : inB a b = true) (k : inB c d = true) (hv : one a b c d = v) : Calls Try.prog 17 #[pv a b, pv c d] w fun e w' => e = .returned (.bool v) ∧ Below w.heap.size w w' := by
  rw [← hv]; exact refOne_c a b c d w (by simpa [inB] using h) (by simpa [inB] using k)

set_option maxHeartbeats 2000000 in
theorem refTwins_c (b off n cap : Nat) (f : Nat → Int × Int) (w : World) (hn : n ≤ 300) (hcap : n ≤ cap) (hc : PtsIn w b off n f) :
    Calls Try.prog 20 #[.slice (some ⟨b, off, none⟩) n cap] w fun e w' => Ret3 (TwRes f n) e ∧ Below w.heap.size w w' := by
  go_enter Try.func20, Try.ntmps20
  go_wp2
  go_loopw [5] (fun i wr => ∃ j : Nat, j ≤ n ∧ i = .int .i64 j ∧ NoTw f j ∧ Below w.heap.size w wr) (fun i _ => n - (intOf i).toNat)
  case atStart => exact ⟨0, by omega, rfl, (fun j' hj => by omega), Below.refl _ _⟩
  case round =>
    obtain ⟨j, hj, rfl, hN, hB⟩ := hrel
    by_cases hlt : j < n
    · go_wp2
      go_loopw [6] (fun i wi => ∃ k : Nat, k ≤ j ∧ i = .int .i64 k ∧ NoTwAt f j k ∧ Below w.heap.size w wi) (fun i _ => j - (intOf i).toNat)
      case atStart => exact ⟨0, by omega, rfl, (fun j' hj => by omega), hB⟩
      case round =>
        rename World => wi
        obtain ⟨k, hk, rfl, hA, hB⟩ := hrel
        by_cases hkj : k < j
        · obtain ⟨c0, c1⟩ := hc k (by omega)
          replace c0 := bkeep hB c0
          replace c1 := bkeep hB c1
          obtain ⟨d0, d1⟩ := hc j (by omega)
          replace d0 := bkeep hB d0
          replace d1 := bkeep hB d1
          generalize hp : f k = p at *
          obtain ⟨p1, p2⟩ := p
          have HP := Lib.hid hp; clear hp
          generalize hq : f j = q at *
          obtain ⟨q1, q2⟩ := q
          have HQ := Lib.hid hq; clear hq
          dsimp only at c0 c1 d0 d1
          have i1 : (k : Int) < (n : Int) := by omega
          have i2 : (j : Int) < (n : Int) := by omega
          cases h1 : inB p1 p2
          ·
            go_wp2_with fail
            refine wp_name fun w2 hW2 => ?_
            have c0 : w2.cell? ⟨b, off + k * 2, none⟩ = some (.int .i64 p1) := by rw [hW2]; exact (by first | assumption | exact cell_new (by with_reducible first | rfl | (simp; done) | (simp; omega)) rfl | (repeat (first | assumption | exact cell_new (by with_reducible first | rfl | (simp; done) | (simp; omega)) rfl | refine cell_alloc ?_ _ | refine cell_drew ?_ | refine cell_drewN ?_ _ | refine cell_far ?_ (by simp) _ | (refine cell_far ?_ (by simp <;> omega) _))) | simp [go_sem, *])
            have zc0 := cell_lt c0
            have c1 : w2.cell? ⟨b, off + k * 2 + 1, none⟩ = some (.int .i64 p2) := by rw [hW2]; exact (by first | assumption | exact cell_new (by with_reducible first | rfl | (simp; done) | (simp; omega)) rfl | (repeat (first | assumption | exact cell_new (by with_reducible first | rfl | (simp; done) | (simp; omega)) rfl | refine cell_alloc ?_ _ | refine cell_drew ?_ | refine cell_drewN ?_ _ | refine cell_far ?_ (by simp) _ | (refine cell_far ?_ (by simp <;> omega) _))) | simp [go_sem, *])
            have d0 : w2.cell? ⟨b, off + j * 2, none⟩ = some (.int .i64 q1) := by rw [hW2]; exact (by first | assumption | exact cell_new (by with_reducible first | rfl | (simp; done) | (simp; omega)) rfl | (repeat (first | assumption | exact cell_new (by with_reducible first | rfl | (simp; done) | (simp; omega)) rfl | refine cell_alloc ?_ _ | refine cell_drew ?_ | refine cell_drewN ?_ _ | refine cell_far ?_ (by simp) _ | (refine cell_far ?_ (by simp <;> omega) _))) | simp [go_sem, *])
            have d1 : w2.cell? ⟨b, off + j * 2 + 1, none⟩ = some (.int .i64 q2) := by rw [hW2]; exact (by first | assumption | exact cell_new (by with_reducible first | rfl | (simp; done) | (simp; omega)) rfl | (repeat (first | assumption | exact cell_new (by with_reducible first | rfl | (simp; done) | (simp; omega)) rfl | refine cell_alloc ?_ _ | refine cell_drew ?_ | refine cell_drewN ?_ _ | refine cell_far ?_ (by simp) _ | (refine cell_far ?_ (by simp <;> omega) _))) | simp [go_sem, *])
            have hB : Below w.heap.size w w2 := by rw [hW2]; repeat (first | exact Below.refl _ _ | exact hB | refine Below.drew ?_ | refine below_drewN ?_ _ | refine bset ?_ (by simp <;> omega) _ | refine bal ?_ _)
            have hz : w.heap.size ≤ w2.heap.size := hB.size
            clear hW2
            refine wp_region_grow (w := w2) (by kernel_rfl) (by kernel_rfl) ?_
            have c0g : ∀ s, (grow w2 s).cell? ⟨b, off + k * 2, none⟩ = some (.int .i64 p1) := fun s => bkeep s.below c0
            have c1g : ∀ s, (grow w2 s).cell? ⟨b, off + k * 2 + 1, none⟩ = some (.int .i64 p2) := fun s => bkeep s.below c1
            have d0g : ∀ s, (grow w2 s).cell? ⟨b, off + j * 2, none⟩ = some (.int .i64 q1) := fun s => bkeep s.below d0
            have d1g : ∀ s, (grow w2 s).cell? ⟨b, off + j * 2 + 1, none⟩ = some (.int .i64 q2) := fun s => bkeep s.below d1
            repeat (go_big_quiet_step ((first | (go_at_call 9; refine grow_of (refIn_v _ _ _ _ (by assumption))) | (go_at_call 17; refine grow_of (refOne_v _ _ _ _ _ _ (by assumption) (by assumption) (by assumption))))))
            refine wpQuiet_nil ?_
            intro w3 hb3
            clear c0g
            clear c1g
            clear d0g
            clear d1g
            have c0 : w3.cell? ⟨b, off + k * 2, none⟩ = some (.int .i64 p1) := bkeep hb3 (by first | assumption | exact cell_new (by with_reducible first | rfl | (simp; done) | (simp; omega)) rfl | (repeat (first | assumption | exact cell_new (by with_reducible first | rfl | (simp; done) | (simp; omega)) rfl | refine cell_alloc ?_ _ | refine cell_drew ?_ | refine cell_drewN ?_ _ | refine cell_far ?_ (by simp) _ | (refine cell_far ?_ (by simp <;> omega) _))) | simp [go_sem, *])
            have zc0 := cell_lt c0
            have c1 : w3.cell? ⟨b, off + k * 2 + 1, none⟩ = some (.int .i64 p2) := bkeep hb3 (by first | assumption | exact cell_new (by with_reducible first | rfl | (simp; done) | (simp; omega)) rfl | (repeat (first | assumption | exact cell_new (by with_reducible first | rfl | (simp; done) | (simp; omega)) rfl | refine cell_alloc ?_ _ | refine cell_drew ?_ | refine cell_drewN ?_ _ | refine cell_far ?_ (by simp) _ | (refine cell_far ?_ (by simp <;> omega) _))) | simp [go_sem, *])
            have d0 : w3.cell? ⟨b, off + j * 2, none⟩ = some (.int .i64 q1) := bkeep hb3 (by first | assumption | exact cell_new (by with_reducible first | rfl | (simp; done) | (simp; omega)) rfl | (repeat (first | assumption | exact cell_new (by with_reducible first | rfl | (simp; done) | (simp; omega)) rfl | refine cell_alloc ?_ _ | refine cell_drew ?_ | refine cell_drewN ?_ _ | refine cell_far ?_ (by simp) _ | (refine cell_far ?_ (by simp <;> omega) _))) | simp [go_sem, *])
            have d1 : w3.cell? ⟨b, off + j * 2 + 1, none⟩ = some (.int .i64 q2) := bkeep hb3 (by first | assumption | exact cell_new (by with_reducible first | rfl | (simp; done) | (simp; omega)) rfl | (repeat (first | assumption | exact cell_new (by with_reducible first | rfl | (simp; done) | (simp; omega)) rfl | refine cell_alloc ?_ _ | refine cell_drew ?_ | refine cell_drewN ?_ _ | refine cell_far ?_ (by simp) _ | (refine cell_far ?_ (by simp <;> omega) _))) | simp [go_sem, *])
            have hB : Below w.heap.size w w3 := bthen (by repeat (first | exact Below.refl _ _ | exact hB | refine Below.drew ?_ | refine below_drewN ?_ _ | refine bset ?_ (by simp <;> omega) _ | refine bal ?_ _)) hb3
            have hz : w.heap.size ≤ w3.heap.size := hB.size
            clear hb3
            go_wp2
            exact ⟨⟨k + 1, by omega, by go_num, hA.next (by rw [HP.out, HQ.out]; simp [twin, h1]), hB⟩, by simp [intOf]; omega⟩
          · cases h2 : inB q1 q2
            ·
              go_wp2_with fail
              refine wp_name fun w2 hW2 => ?_
              have c0 : w2.cell? ⟨b, off + k * 2, none⟩ = some (.int .i64 p1) := by rw [hW2]; exact (by first | assumption | exact cell_new (by with_reducible first | rfl | (simp; done) | (simp; omega)) rfl | (repeat (first | assumption | exact cell_new (by with_reducible first | rfl | (simp; done) | (simp; omega)) rfl | refine cell_alloc ?_ _ | refine cell_drew ?_ | refine cell_drewN ?_ _ | refine cell_far ?_ (by simp) _ | (refine cell_far ?_ (by simp <;> omega) _))) | simp [go_sem, *])
              have zc0 := cell_lt c0
              have c1 : w2.cell? ⟨b, off + k * 2 + 1, none⟩ = some (.int .i64 p2) := by rw [hW2]; exact (by first | assumption | exact cell_new (by with_reducible first | rfl | (simp; done) | (simp; omega)) rfl | (repeat (first | assumption | exact cell_new (by with_reducible first | rfl | (simp; done) | (simp; omega)) rfl | refine cell_alloc ?_ _ | refine cell_drew ?_ | refine cell_drewN ?_ _ | refine cell_far ?_ (by simp) _ | (refine cell_far ?_ (by simp <;> omega) _))) | simp [go_sem, *])
              have d0 : w2.cell? ⟨b, off + j * 2, none⟩ = some (.int .i64 q1) := by rw [hW2]; exact (by first | assumption | exact cell_new (by with_reducible first | rfl | (simp; done) | (simp; omega)) rfl | (repeat (first | assumption | exact cell_new (by with_reducible first | rfl | (simp; done) | (simp; omega)) rfl | refine cell_alloc ?_ _ | refine cell_drew ?_ | refine cell_drewN ?_ _ | refine cell_far ?_ (by simp) _ | (refine cell_far ?_ (by simp <;> omega) _))) | simp [go_sem, *])
              have d1 : w2.cell? ⟨b, off + j * 2 + 1, none⟩ = some (.int .i64 q2) := by rw [hW2]; exact (by first | assumption | exact cell_new (by with_reducible first | rfl | (simp; done) | (simp; omega)) rfl | (repeat (first | assumption | exact cell_new (by with_reducible first | rfl | (simp; done) | (simp; omega)) rfl | refine cell_alloc ?_ _ | refine cell_drew ?_ | refine cell_drewN ?_ _ | refine cell_far ?_ (by simp) _ | (refine cell_far ?_ (by simp <;> omega) _))) | simp [go_sem, *])
              have hB : Below w.heap.size w w2 := by rw [hW2]; repeat (first | exact Below.refl _ _ | exact hB | refine Below.drew ?_ | refine below_drewN ?_ _ | refine bset ?_ (by simp <;> omega) _ | refine bal ?_ _)
              have hz : w.heap.size ≤ w2.heap.size := hB.size
              clear hW2
              refine wp_region_grow (w := w2) (by kernel_rfl) (by kernel_rfl) ?_
              have c0g : ∀ s, (grow w2 s).cell? ⟨b, off + k * 2, none⟩ = some (.int .i64 p1) := fun s => bkeep s.below c0
              have c1g : ∀ s, (grow w2 s).cell? ⟨b, off + k * 2 + 1, none⟩ = some (.int .i64 p2) := fun s => bkeep s.below c1
              have d0g : ∀ s, (grow w2 s).cell? ⟨b, off + j * 2, none⟩ = some (.int .i64 q1) := fun s => bkeep s.below d0
              have d1g : ∀ s, (grow w2 s).cell? ⟨b, off + j * 2 + 1, none⟩ = some (.int .i64 q2) := fun s => bkeep s.below d1
              repeat (go_big_quiet_step ((first | (go_at_call 9; refine grow_of (refIn_v _ _ _ _ (by assumption))) | (go_at_call 17; refine grow_of (refOne_v _ _ _ _ _ _ (by assumption) (by assumption) (by assumption))))))
              refine wpQuiet_nil ?_
              intro w3 hb3
              clear c0g
              clear c1g
              clear d0g
              clear d1g
              have c0 : w3.cell? ⟨b, off + k * 2, none⟩ = some (.int .i64 p1) := bkeep hb3 (by first | assumption | exact cell_new (by with_reducible first | rfl | (simp; done) | (simp; omega)) rfl | (repeat (first | assumption | exact cell_new (by with_reducible first | rfl | (simp; done) | (simp; omega)) rfl | refine cell_alloc ?_ _ | refine cell_drew ?_ | refine cell_drewN ?_ _ | refine cell_far ?_ (by simp) _ | (refine cell_far ?_ (by simp <;> omega) _))) | simp [go_sem, *])
              have zc0 := cell_lt c0
              have c1 : w3.cell? ⟨b, off + k * 2 + 1, none⟩ = some (.int .i64 p2) := bkeep hb3 (by first | assumption | exact cell_new (by with_reducible first | rfl | (simp; done) | (simp; omega)) rfl | (repeat (first | assumption | exact cell_new (by with_reducible first | rfl | (simp; done) | (simp; omega)) rfl | refine cell_alloc ?_ _ | refine cell_drew ?_ | refine cell_drewN ?_ _ | refine cell_far ?_ (by simp) _ | (refine cell_far ?_ (by simp <;> omega) _))) | simp [go_sem, *])
              have d0 : w3.cell? ⟨b, off + j * 2, none⟩ = some (.int .i64 q1) := bkeep hb3 (by first | assumption | exact cell_new (by with_reducible first | rfl | (simp; done) | (simp; omega)) rfl | (repeat (first | assumption | exact cell_new (by with_reducible first | rfl | (simp; done) | (simp; omega)) rfl | refine cell_alloc ?_ _ | refine cell_drew ?_ | refine cell_drewN ?_ _ | refine cell_far ?_ (by simp) _ | (refine cell_far ?_ (by simp <;> omega) _))) | simp [go_sem, *])
              have d1 : w3.cell? ⟨b, off + j * 2 + 1, none⟩ = some (.int .i64 q2) := bkeep hb3 (by first | assumption | exact cell_new (by with_reducible first | rfl | (simp; done) | (simp; omega)) rfl | (repeat (first | assumption | exact cell_new (by with_reducible first | rfl | (simp; done) | (simp; omega)) rfl | refine cell_alloc ?_ _ | refine cell_drew ?_ | refine cell_drewN ?_ _ | refine cell_far ?_ (by simp) _ | (refine cell_far ?_ (by simp <;> omega) _))) | simp [go_sem, *])
              have hB : Below w.heap.size w w3 := bthen (by repeat (first | exact Below.refl _ _ | exact hB | refine Below.drew ?_ | refine below_drewN ?_ _ | refine bset ?_ (by simp <;> omega) _ | refine bal ?_ _)) hb3
              have hz : w.heap.size ≤ w3.heap.size := hB.size
              clear hb3
              go_wp2
              exact ⟨⟨k + 1, by omega, by go_num, hA.next (by rw [HP.out, HQ.out]; simp [twin, h1, h2]), hB⟩, by simp [intOf]; omega⟩
            · cases h3 : one p1 p2 q1 q2
              ·
                go_wp2_with fail
                refine wp_name fun w2 hW2 => ?_
                have c0 : w2.cell? ⟨b, off + k * 2, none⟩ = some (.int .i64 p1) := by rw [hW2]; exact (by first | assumption | exact cell_new (by with_reducible first | rfl | (simp; done) | (simp; omega)) rfl | (repeat (first | assumption | exact cell_new (by with_reducible first | rfl | (simp; done) | (simp; omega)) rfl | refine cell_alloc ?_ _ | refine cell_drew ?_ | refine cell_drewN ?_ _ | refine cell_far ?_ (by simp) _ | (refine cell_far ?_ (by simp <;> omega) _))) | simp [go_sem, *])
                have zc0 := cell_lt c0
                have c1 : w2.cell? ⟨b, off + k * 2 + 1, none⟩ = some (.int .i64 p2) := by rw [hW2]; exact (by first | assumption | exact cell_new (by with_reducible first | rfl | (simp; done) | (simp; omega)) rfl | (repeat (first | assumption | exact cell_new (by with_reducible first | rfl | (simp; done) | (simp; omega)) rfl | refine cell_alloc ?_ _ | refine cell_drew ?_ | refine cell_drewN ?_ _ | refine cell_far ?_ (by simp) _ | (refine cell_far ?_ (by simp <;> omega) _))) | simp [go_sem, *])
                have d0 : w2.cell? ⟨b, off + j * 2, none⟩ = some (.int .i64 q1) := by rw [hW2]; exact (by first | assumption | exact cell_new (by with_reducible first | rfl | (simp; done) | (simp; omega)) rfl | (repeat (first | assumption | exact cell_new (by with_reducible first | rfl | (simp; done) | (simp; omega)) rfl | refine cell_alloc ?_ _ | refine cell_drew ?_ | refine cell_drewN ?_ _ | refine cell_far ?_ (by simp) _ | (refine cell_far ?_ (by simp <;> omega) _))) | simp [go_sem, *])
                have d1 : w2.cell? ⟨b, off + j * 2 + 1, none⟩ = some (.int .i64 q2) := by rw [hW2]; exact (by first | assumption | exact cell_new (by with_reducible first | rfl | (simp; done) | (simp; omega)) rfl | (repeat (first | assumption | exact cell_new (by with_reducible first | rfl | (simp; done) | (simp; omega)) rfl | refine cell_alloc ?_ _ | refine cell_drew ?_ | refine cell_drewN ?_ _ | refine cell_far ?_ (by simp) _ | (refine cell_far ?_ (by simp <;> omega) _))) | simp [go_sem, *])
                have hB : Below w.heap.size w w2 := by rw [hW2]; repeat (first | exact Below.refl _ _ | exact hB | refine Below.drew ?_ | refine below_drewN ?_ _ | refine bset ?_ (by simp <;> omega) _ | refine bal ?_ _)
                have hz : w.heap.size ≤ w2.heap.size := hB.size
                clear hW2
                refine wp_region_grow (w := w2) (by kernel_rfl) (by kernel_rfl) ?_
                have c0g : ∀ s, (grow w2 s).cell? ⟨b, off + k * 2, none⟩ = some (.int .i64 p1) := fun s => bkeep s.below c0
                have c1g : ∀ s, (grow w2 s).cell? ⟨b, off + k * 2 + 1, none⟩ = some (.int .i64 p2) := fun s => bkeep s.below c1
                have d0g : ∀ s, (grow w2 s).cell? ⟨b, off + j * 2, none⟩ = some (.int .i64 q1) := fun s => bkeep s.below d0
                have d1g : ∀ s, (grow w2 s).cell? ⟨b, off + j * 2 + 1, none⟩ = some (.int .i64 q2) := fun s => bkeep s.below d1
                repeat (go_big_quiet_step ((first | (go_at_call 9; refine grow_of (refIn_v _ _ _ _ (by assumption))) | (go_at_call 17; refine grow_of (refOne_v _ _ _ _ _ _ (by assumption) (by assumption) (by assumption))))))
                refine wpQuiet_nil ?_
                intro w3 hb3
                clear c0g
                clear c1g
                clear d0g
                clear d1g
                have c0 : w3.cell? ⟨b, off + k * 2, none⟩ = some (.int .i64 p1) := bkeep hb3 (by first | assumption | exact cell_new (by with_reducible first | rfl | (simp; done) | (simp; omega)) rfl | (repeat (first | assumption | exact cell_new (by with_reducible first | rfl | (simp; done) | (simp; omega)) rfl | refine cell_alloc ?_ _ | refine cell_drew ?_ | refine cell_drewN ?_ _ | refine cell_far ?_ (by simp) _ | (refine cell_far ?_ (by simp <;> omega) _))) | simp [go_sem, *])
                have zc0 := cell_lt c0
                have c1 : w3.cell? ⟨b, off + k * 2 + 1, none⟩ = some (.int .i64 p2) := bkeep hb3 (by first | assumption | exact cell_new (by with_reducible first | rfl | (simp; done) | (simp; omega)) rfl | (repeat (first | assumption | exact cell_new (by with_reducible first | rfl | (simp; done) | (simp; omega)) rfl | refine cell_alloc ?_ _ | refine cell_drew ?_ | refine cell_drewN ?_ _ | refine cell_far ?_ (by simp) _ | (refine cell_far ?_ (by simp <;> omega) _))) | simp [go_sem, *])
                have d0 : w3.cell? ⟨b, off + j * 2, none⟩ = some (.int .i64 q1) := bkeep hb3 (by first | assumption | exact cell_new (by with_reducible first | rfl | (simp; done) | (simp; omega)) rfl | (repeat (first | assumption | exact cell_new (by with_reducible first | rfl | (simp; done) | (simp; omega)) rfl | refine cell_alloc ?_ _ | refine cell_drew ?_ | refine cell_drewN ?_ _ | refine cell_far ?_ (by simp) _ | (refine cell_far ?_ (by simp <;> omega) _))) | simp [go_sem, *])
                have d1 : w3.cell? ⟨b, off + j * 2 + 1, none⟩ = some (.int .i64 q2) := bkeep hb3 (by first | assumption | exact cell_new (by with_reducible first | rfl | (simp; done) | (simp; omega)) rfl | (repeat (first | assumption | exact cell_new (by with_reducible first | rfl | (simp; done) | (simp; omega)) rfl | refine cell_alloc ?_ _ | refine cell_drew ?_ | refine cell_drewN ?_ _ | refine cell_far ?_ (by simp) _ | (refine cell_far ?_ (by simp <;> omega) _))) | simp [go_sem, *])
                have hB : Below w.heap.size w w3 := bthen (by repeat (first | exact Below.refl _ _ | exact hB | refine Below.drew ?_ | refine below_drewN ?_ _ | refine bset ?_ (by simp <;> omega) _ | refine bal ?_ _)) hb3
                have hz : w.heap.size ≤ w3.heap.size := hB.size
                clear hb3
                go_wp2
                exact ⟨⟨k + 1, by omega, by go_num, hA.next (by rw [HP.out, HQ.out]; simp [twin, h1, h2, h3]), hB⟩, by simp [intOf]; omega⟩
              ·
                go_wp2_with fail
                refine wp_name fun w2 hW2 => ?_
                have c0 : w2.cell? ⟨b, off + k * 2, none⟩ = some (.int .i64 p1) := by rw [hW2]; exact (by first | assumption | exact cell_new (by with_reducible first | rfl | (simp; done) | (simp; omega)) rfl | (repeat (first | assumption | exact cell_new (by with_reducible first | rfl | (simp; done) | (simp; omega)) rfl | refine cell_alloc ?_ _ | refine cell_drew ?_ | refine cell_drewN ?_ _ | refine cell_far ?_ (by simp) _ | (refine cell_far ?_ (by simp <;> omega) _))) | simp [go_sem, *])
                have zc0 := cell_lt c0
                have c1 : w2.cell? ⟨b, off + k * 2 + 1, none⟩ = some (.int .i64 p2) := by rw [hW2]; exact (by first | assumption | exact cell_new (by with_reducible first | rfl | (simp; done) | (simp; omega)) rfl | (repeat (first | assumption | exact cell_new (by with_reducible first | rfl | (simp; done) | (simp; omega)) rfl | refine cell_alloc ?_ _ | refine cell_drew ?_ | refine cell_drewN ?_ _ | refine cell_far ?_ (by simp) _ | (refine cell_far ?_ (by simp <;> omega) _))) | simp [go_sem, *])
                have d0 : w2.cell? ⟨b, off + j * 2, none⟩ = some (.int .i64 q1) := by rw [hW2]; exact (by first | assumption | exact cell_new (by with_reducible first | rfl | (simp; done) | (simp; omega)) rfl | (repeat (first | assumption | exact cell_new (by with_reducible first | rfl | (simp; done) | (simp; omega)) rfl | refine cell_alloc ?_ _ | refine cell_drew ?_ | refine cell_drewN ?_ _ | refine cell_far ?_ (by simp) _ | (refine cell_far ?_ (by simp <;> omega) _))) | simp [go_sem, *])
                have d1 : w2.cell? ⟨b, off + j * 2 + 1, none⟩ = some (.int .i64 q2) := by rw [hW2]; exact (by first | assumption | exact cell_new (by with_reducible first | rfl | (simp; done) | (simp; omega)) rfl | (repeat (first | assumption | exact cell_new (by with_reducible first | rfl | (simp; done) | (simp; omega)) rfl | refine cell_alloc ?_ _ | refine cell_drew ?_ | refine cell_drewN ?_ _ | refine cell_far ?_ (by simp) _ | (refine cell_far ?_ (by simp <;> omega) _))) | simp [go_sem, *])
                have hB : Below w.heap.size w w2 := by rw [hW2]; repeat (first | exact Below.refl _ _ | exact hB | refine Below.drew ?_ | refine below_drewN ?_ _ | refine bset ?_ (by simp <;> omega) _ | refine bal ?_ _)
                have hz : w.heap.size ≤ w2.heap.size := hB.size
                clear hW2
                refine wp_region_grow (w := w2) (by kernel_rfl) (by kernel_rfl) ?_
                have c0g : ∀ s, (grow w2 s).cell? ⟨b, off + k * 2, none⟩ = some (.int .i64 p1) := fun s => bkeep s.below c0
                have c1g : ∀ s, (grow w2 s).cell? ⟨b, off + k * 2 + 1, none⟩ = some (.int .i64 p2) := fun s => bkeep s.below c1
                have d0g : ∀ s, (grow w2 s).cell? ⟨b, off + j * 2, none⟩ = some (.int .i64 q1) := fun s => bkeep s.below d0
                have d1g : ∀ s, (grow w2 s).cell? ⟨b, off + j * 2 + 1, none⟩ = some (.int .i64 q2) := fun s => bkeep s.below d1
                repeat (go_big_quiet_step ((first | (go_at_call 9; refine grow_of (refIn_v _ _ _ _ (by assumption))) | (go_at_call 17; refine grow_of (refOne_v _ _ _ _ _ _ (by assumption) (by assumption) (by assumption))))))
                refine wpQuiet_nil ?_
                intro w3 hb3
                clear c0g
                clear c1g
                clear d0g
                clear d1g
                have c0 : w3.cell? ⟨b, off + k * 2, none⟩ = some (.int .i64 p1) := bkeep hb3 (by first | assumption | exact cell_new (by with_reducible first | rfl | (simp; done) | (simp; omega)) rfl | (repeat (first | assumption | exact cell_new (by with_reducible first | rfl | (simp; done) | (simp; omega)) rfl | refine cell_alloc ?_ _ | refine cell_drew ?_ | refine cell_drewN ?_ _ | refine cell_far ?_ (by simp) _ | (refine cell_far ?_ (by simp <;> omega) _))) | simp [go_sem, *])
                have zc0 := cell_lt c0
                have c1 : w3.cell? ⟨b, off + k * 2 + 1, none⟩ = some (.int .i64 p2) := bkeep hb3 (by first | assumption | exact cell_new (by with_reducible first | rfl | (simp; done) | (simp; omega)) rfl | (repeat (first | assumption | exact cell_new (by with_reducible first | rfl | (simp; done) | (simp; omega)) rfl | refine cell_alloc ?_ _ | refine cell_drew ?_ | refine cell_drewN ?_ _ | refine cell_far ?_ (by simp) _ | (refine cell_far ?_ (by simp <;> omega) _))) | simp [go_sem, *])
                have d0 : w3.cell? ⟨b, off + j * 2, none⟩ = some (.int .i64 q1) := bkeep hb3 (by first | assumption | exact cell_new (by with_reducible first | rfl | (simp; done) | (simp; omega)) rfl | (repeat (first | assumption | exact cell_new (by with_reducible first | rfl | (simp; done) | (simp; omega)) rfl | refine cell_alloc ?_ _ | refine cell_drew ?_ | refine cell_drewN ?_ _ | refine cell_far ?_ (by simp) _ | (refine cell_far ?_ (by simp <;> omega) _))) | simp [go_sem, *])
                have d1 : w3.cell? ⟨b, off + j * 2 + 1, none⟩ = some (.int .i64 q2) := bkeep hb3 (by first | assumption | exact cell_new (by with_reducible first | rfl | (simp; done) | (simp; omega)) rfl | (repeat (first | assumption | exact cell_new (by with_reducible first | rfl | (simp; done) | (simp; omega)) rfl | refine cell_alloc ?_ _ | refine cell_drew ?_ | refine cell_drewN ?_ _ | refine cell_far ?_ (by simp) _ | (refine cell_far ?_ (by simp <;> omega) _))) | simp [go_sem, *])
                have hB : Below w.heap.size w w3 := bthen (by repeat (first | exact Below.refl _ _ | exact hB | refine Below.drew ?_ | refine below_drewN ?_ _ | refine bset ?_ (by simp <;> omega) _ | refine bal ?_ _)) hb3
                have hz : w.heap.size ≤ w3.heap.size := hB.size
                clear hb3
                go_wp2
                go_ret3
                exact ⟨⟨_, _, _, rfl, .inl ⟨rfl, k, j, rfl, rfl, hkj, hlt, by rw [HP.out, HQ.out]; simp [twin, h1, h2, h3], hN, hA⟩⟩, hB⟩
        · obtain rfl : k = j := by omega
          go_wp2
          go_roundw
          case rel => exact ⟨k + 1, by omega, by go_num, hN.next hA, hB⟩
          case measure => simp [intOf]; omega
    · obtain rfl : j = n := by omega
      go_wp2
      go_ret3
      exact ⟨⟨_, _, _, rfl, .inr ⟨rfl, rfl, rfl, hN⟩⟩, hB⟩
end Go.Proofs.Ytefoljempkpmgaa
