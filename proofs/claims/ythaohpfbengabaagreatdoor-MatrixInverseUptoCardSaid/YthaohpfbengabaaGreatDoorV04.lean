/- Texts of this seat, laid together: VmA, PrgA, PrgB, PrgC, NumS, LimbE, NumT, RefG, PrgD, PrgE. Each opens with its own remark, which says what it proves, and under which conditions. -/
import Derived.Test.YthaohpfbengabaaGreatDoorV03
import Derived.Laws.AppendOwn
import Derived.Test.YthaohpfbengabaaGreatDoorV01
import Derived.Test.YthaohpfbengabaaGreatDoorV02
set_option linter.unusedVariables false
set_option linter.unusedSimpArgs false
/- slices.Clone at []integer.Int and at [][]integer.Int. -/
namespace Go.Proofs.YthaohpfbengabaaGreatDoor
open Num
open Go.ChangeShapes Go.WideShapes Go.ChangeAt Go.RowKit
set_option linter.unusedVariables false
set_option linter.unusedSimpArgs false
/-- what lies in a block from off on -/
def cellsAt (w : World) (b off m : Nat) : List Value := (List.range m).map fun j => (w.cell? ⟨b, off + j, none⟩).getD .nilFunc
theorem cellsAt_len (w : World) (b off m : Nat) : (cellsAt w b off m).length = m := by simp [cellsAt]
theorem cellsAt_get {w : World} {b off m j : Nat} {v : Value} (h : j < m) (hv : w.cell? ⟨b, off + j, none⟩ = some v) : (cellsAt w b off m)[j]? = some v := by simp [cellsAt, h, hv]
theorem cellsAt_lt {w : World} {b off m j : Nat} {v : Value} (h : (cellsAt w b off m)[j]? = some v) : j < m := by
  have := (List.getElem?_eq_some_iff.1 h).1
  rwa [cellsAt_len] at this
theorem cellsAt_at {w W : World} (hW : Below w.heap.size w W) {b off m : Nat} (hc : ∀ j, j < m → ∃ v, w.cell? ⟨b, off + j, none⟩ = some v) : ∀ j u, (cellsAt w b off m)[j]? = some u → W.cell? ((⟨b, off, none⟩ : Addr).add j) = some u := by
  intro j u hj
  have hl := cellsAt_lt hj
  obtain ⟨v, hv⟩ := hc j hl
  rw [cellsAt_get hl hv] at hj
  cases hj
  have := bkeep hW hv
  unfold Addr.add
  split
  · subst_vars; simpa using this
  · exact this
theorem cellsAt_all {w : World} {b off m : Nat} {p : Value → Prop} (hc : ∀ j, j < m → ∃ v, w.cell? ⟨b, off + j, none⟩ = some v ∧ p v) : ∀ u ∈ cellsAt w b off m, p u := by
  intro u hu
  obtain ⟨j, hj⟩ := List.mem_iff_getElem?.1 hu
  have hl := cellsAt_lt hj
  obtain ⟨v, hv, hp⟩ := hc j hl
  rw [cellsAt_get hl hv] at hj
  cases hj; exact hp
theorem intsF_cells {R : World → Value → Int → Prop} {w : World} {b off n : Nat} {f : Nat → Int} (h : IntsF R w b off n f) : ∀ j, j < n * 2 → ∃ v, w.cell? ⟨b, off + j, none⟩ = some v ∧ v.oneCell' = true := by
  intro j hj
  obtain ⟨nb, a, len, c, h1, h2, _⟩ := h (j / 2) (by omega)
  by_cases e : j % 2 = 0
  · exact ⟨_, by rw [show off + j = off + j / 2 * 2 by omega]; exact h1, rfl⟩
  · exact ⟨_, by rw [show off + j = off + j / 2 * 2 + 1 by omega]; exact h2, rfl⟩
theorem ownF_of_cells {R : World → Value → Int → Prop} (hR : Lims R) {E : TypeId} {w w' : World} {b off n : Nat} {f : Nat → Int} {v' : Value} (h : IntsF R w b off n f) (hb : Below w.heap.size w w') (hO : w'.ownsRow w.heap.size E 2 v' n (cellsAt w b off (n * 2))) : OwnF R E w w' v' n f := by
  refine ⟨_, ⟨hO, hb⟩, fun k hk => ?_⟩
  obtain ⟨nb, a, len, c, h1, h2, h3⟩ := h k hk
  exact ⟨nb, a, len, c, cellsAt_get (by omega) h1, cellsAt_get (by omega) h2, hR _ _ _ _ h3 (.of_below hb)⟩
set_option maxRecDepth 100000 in
set_option maxHeartbeats 1000000 in
theorem cloneRow_c (base : Nat) (v : Value) (l : List Int) (w : World) (hv : PRow base w v l) (h1 : l.length ≤ 1099511627776) :
    Calls Tryz.prog 82 #[v] w fun e w' => (∃ v', e = .returned v' ∧ RowO IsInt 36 w.heap.size w' v' l) ∧ Below w.heap.size w w' := by
  obtain ⟨a, ca, rfl, hlc, hcm, hl⟩ := hv
  have hB0 := Below.refl w.heap.size w
  have hq := fun w => Lib.run_eql_slice_nil w 59 36 a l.length ca 0 0 Tryz.underlying59
  cases a with
  | none =>
    obtain rfl : l = [] := by rcases hl with h | ⟨b, off, h, _⟩
                              · exact h
                              · cases h
    have hq2 : ∀ w, (binOp .eql 59 (.slice none 0 ca) (.slice none 0 0)).run Tryz.prog w = .ok (.bool true) w := hq
    clear hq hl
    go_enter Tryz.func82, Tryz.ntmps82
    go_wp2
    go_ret
    exact ⟨⟨_, rfl, RowO.nil _ _ _ _⟩, Below.refl _ _⟩
  | some ad =>
    obtain ⟨i0, z0, hi, hz0, hz1, hz2, hz3⟩ := elInt.info
    obtain ⟨xs, hx1, hx2, hx3, HX⟩ : ∃ xs : List Value, xs.length = l.length * 2 ∧ (∀ (W : World), Below w.heap.size w W → ∀ j u, xs[j]? = some u → W.cell? (ad.add j) = some u) ∧ (∀ u ∈ xs, u.oneCell' = true) ∧
        Hid (∀ v' w', Below w.heap.size w w' → w'.ownsRow w.heap.size 36 2 v' l.length xs → RowO IsInt 36 w.heap.size w' v' l) := by
      rcases hl with rfl | ⟨b, off, h, hb, ht, hi'⟩
      · refine ⟨[], by simp, fun W hW j u hj => by simp at hj, fun u hu => by simp at hu, Lib.hid fun v' w' hb' hO => ?_⟩
        have : OwnF IsInt 36 w w' v' ([] : List Int).length (fun k => ([] : List Int).getD k 0) := ⟨[], ⟨hO, hb'⟩, fun k hk => absurd hk (by simp)⟩
        exact this.rowO
      · cases h
        refine ⟨cellsAt w b off (l.length * 2), cellsAt_len _ _ _ _, fun W hW => cellsAt_at hW fun j hj => ?_, cellsAt_all (intsF_cells hi'), Lib.hid fun v' w' hb' hO => ?_⟩
        · obtain ⟨v, hv, _⟩ := intsF_cells hi' j hj; exact ⟨v, hv⟩
        · exact (ownF_of_cells lims_int hi' hb' hO).rowO
    clear hl
    have ho : (w.alloc (.cells #[] 36)).ownsRow w.heap.size 36 2 (.slice (some ⟨w.heap.size, 0, none⟩) 0 0) 0 [] := ⟨rfl, .inr ⟨w.heap.size, 0, #[], rfl, Nat.le_refl _, (MapKept.heap_alloc w _).1, Nat.le_refl _, by unfold maxLen; omega, rfl, rfl⟩⟩
    go_enter Tryz.func82, Tryz.ntmps82
    go_wp2_with (at_builtin; refine wpList_append_own _ rfl _ _ 59 rfl w.heap.size 36 i0 z0 2 32 Tryz.underlying59 hi hz0 hz1 hz2 hz3 (by decide) _ 0 [] rfl ho ad l.length ca xs rfl hx1 (hx2 _ (bal hB0 _)) hx3 (by unfold maxLen; omega) (by omega) (by simp) ?_)
    intro v' w1 hown hgrow _
    have hbel := below_append (wr := w) (bal hB0 _) ho hgrow
    try simp only [Nat.zero_add, List.nil_append] at hown
    have hr := HX.out v' w1 hbel hown
    have HU := Lib.hid hr
    obtain ⟨a', c', rfl⟩ := hr.ex
    clear hr
    clear hown hx1 hx2 hx3 hq hgrow ho
    go_wp2
    go_ret
    exact ⟨⟨_, rfl, HU.out⟩, hbel⟩
end Go.Proofs.YthaohpfbengabaaGreatDoor

/- prog: an instruction: two, constant, Asks. -/
namespace Go.Proofs.YthaohpfbengabaaGreatDoor
open Go.ChangeShapes Go.WideShapes Go.ChangeAt Go.RowKit
set_option linter.unusedVariables false
set_option linter.unusedSimpArgs false
/-- an instruction -/
structure Ins where
  op : Int
  to : Int
  a : Int
  b : Int
  c : Int
deriving Inhabited
def Ins.v (i : Ins) : Value := .agg #[.int .i64 i.op, .int .i64 i.to, .int .i64 i.a, .int .i64 i.b, .int .i64 i.c]
def twoB (op : Int) : Bool := decide (op = 3 ∨ op = 4)
def constB (op c : Int) : Bool := if op = 5 ∨ op = 6 then decide (c ≠ 0 ∧ -512 ≤ c ∧ c ≤ 512) else if op = 7 ∨ op = 8 then decide (1 ≤ c ∧ c ≤ 64) else decide (c = 0)
end Go.Proofs.YthaohpfbengabaaGreatDoor

/- prog: may. -/
namespace Go.Proofs.YthaohpfbengabaaGreatDoor
open Go.ChangeShapes Go.WideShapes Go.ChangeAt Go.RowKit
set_option linter.unusedVariables false
set_option linter.unusedSimpArgs false
def mayB (op t a b c regs : Int) : Bool := decide (1 ≤ op ∧ op ≤ 8 ∧ 0 ≤ t ∧ t < regs ∧ (twoB op = false → b = 0) ∧ constB op c = true ∧ 0 ≤ a ∧ a < regs ∧ (twoB op = true → 0 ≤ b ∧ b < regs))
end Go.Proofs.YthaohpfbengabaaGreatDoor

/- prog: Check. -/
namespace Go.Proofs.YthaohpfbengabaaGreatDoor
open Go.ChangeShapes Go.WideShapes Go.ChangeAt Go.RowKit
set_option linter.unusedVariables false
set_option linter.unusedSimpArgs false
/-- a list of ints in memory -/
def IntsV (w : World) (a : Option Addr) (cap : Nat) (L : List Int) : Prop := L = [] ∨ ∃ b off, a = some ⟨b, off, none⟩ ∧ L.length ≤ cap ∧ ∀ k, k < L.length → w.cell? ⟨b, off + k, none⟩ = some (.int .i64 (L.getD k 0))
theorem IntsV.keep {w w' : World} {a : Option Addr} {cap : Nat} {L : List Int} (h : IntsV w a cap L) (hb : Below w.heap.size w w') : IntsV w' a cap L := by
  rcases h with h | ⟨b, off, h1, h2, h3⟩
  · exact .inl h
  · exact .inr ⟨b, off, h1, h2, fun k hk => bkeep hb (h3 k hk)⟩
/-- a list of instructions in memory -/
structure InsAt (w : World) (b off : Nat) (i : Ins) : Prop where
  c0 : w.cell? ⟨b, off, none⟩ = some (.int .i64 i.op)
  c1 : w.cell? ⟨b, off + 1, none⟩ = some (.int .i64 i.to)
  c2 : w.cell? ⟨b, off + 2, none⟩ = some (.int .i64 i.a)
  c3 : w.cell? ⟨b, off + 3, none⟩ = some (.int .i64 i.b)
  c4 : w.cell? ⟨b, off + 4, none⟩ = some (.int .i64 i.c)
def InsV (w : World) (a : Option Addr) (cap : Nat) (L : List Ins) : Prop := L = [] ∨ ∃ b off, a = some ⟨b, off, none⟩ ∧ L.length ≤ cap ∧ ∀ k, k < L.length → InsAt w b (off + k * 5) (L.getD k default)
theorem InsAt.keep {w w' : World} {b off : Nat} {i : Ins} (h : InsAt w b off i) (hb : Below w.heap.size w w') : InsAt w' b off i := ⟨bkeep hb h.c0, bkeep hb h.c1, bkeep hb h.c2, bkeep hb h.c3, bkeep hb h.c4⟩
theorem InsV.keep {w w' : World} {a : Option Addr} {cap : Nat} {L : List Ins} (h : InsV w a cap L) (hb : Below w.heap.size w w') : InsV w' a cap L := by
  rcases h with h | ⟨b, off, h1, h2, h3⟩
  · exact .inl h
  · exact .inr ⟨b, off, h1, h2, fun k hk => (h3 k hk).keep hb⟩
/-- a slice's address: in a block of the type t, from B on -/
def FromA (B : Nat) (t : TypeId) (w : World) (a : Option Addr) : Prop := ∀ p, a = some p → B ≤ p.block ∧ typOf w p.block = some t
theorem FromA.nil (B : Nat) (t : TypeId) (w : World) : FromA B t w none := fun _ e => by cases e
theorem FromA.keep {B : Nat} {t : TypeId} {w w' : World} {a : Option Addr} (h : FromA B t w a) (hb : Below w.heap.size w w') : FromA B t w' a := fun p e => ⟨(h p e).1, typ_keep (h p e).2 hb⟩
theorem FromA.mono {B C : Nat} {t : TypeId} {w : World} {a : Option Addr} (h : FromA B t w a) (hc : C ≤ B) : FromA C t w a := fun p e => ⟨Nat.le_trans hc (h p e).1, (h p e).2⟩
theorem FromA.set {B : Nat} {t : TypeId} {w : World} {a : Option Addr} (h : FromA B t w a) (q : Addr) (v : Value) : FromA B t (w.setCell q v) a := fun p e => ⟨(h p e).1, by rw [typ_set]; exact (h p e).2⟩
theorem IntsV.far {w : World} {a : Option Addr} {cap : Nat} {L : List Int} (h : IntsV w a cap L) {q : Addr} (hq : ∀ p, a = some p → p.block ≠ q.block) (v : Value) : IntsV (w.setCell q v) a cap L := by
  rcases h with h | ⟨b, off, h1, h2, h3⟩
  · exact .inl h
  · exact .inr ⟨b, off, h1, h2, fun k hk => cell_far (h3 k hk) (fun e => hq _ h1 (by rw [e])) v⟩
theorem InsV.far {w : World} {a : Option Addr} {cap : Nat} {L : List Ins} (h : InsV w a cap L) {q : Addr} (hq : ∀ p, a = some p → p.block ≠ q.block) (v : Value) : InsV (w.setCell q v) a cap L := by
  rcases h with h | ⟨b, off, h1, h2, h3⟩
  · exact .inl h
  · refine .inr ⟨b, off, h1, h2, fun k hk => ?_⟩
    have hn : ∀ o, q ≠ (⟨b, o, Option.none⟩ : Addr) := fun o e => hq _ h1 (by rw [e])
    obtain ⟨c0, c1, c2, c3, c4⟩ := h3 k hk
    exact ⟨cell_far c0 (hn _) v, cell_far c1 (hn _) v, cell_far c2 (hn _) v, cell_far c3 (hn _) v, cell_far c4 (hn _) v⟩
/-- what Check asks of a program -/
structure ProgOk (ins regs : Int) (code : List Ins) (outs : List Int) : Prop where
  i1 : 1 ≤ ins
  i2 : ins ≤ regs
  r1 : regs ≤ 128
  c1 : code.length ≤ 16384
  o1 : 1 ≤ outs.length
  o2 : outs.length ≤ 128
  os : ∀ k, k < outs.length → 0 ≤ outs.getD k 0 ∧ outs.getD k 0 < regs
  cs : ∀ k, k < code.length → mayB (code.getD k default).op (code.getD k default).to (code.getD k default).a (code.getD k default).b (code.getD k default).c regs = true

end Go.Proofs.YthaohpfbengabaaGreatDoor

/- Plain laws: sums, differences, small quotients, shifts of numbers as lists of limbs. -/
namespace Go.Proofs.YthaohpfbengabaaGreatDoor.Num

theorem val_set0 {l : List Nat} {k : Nat} (x : Nat) (hk : k < l.length) (h0 : l.getD k 0 = 0) : val (l.set k x) = val l + x * BB ^ k := by
  have := val_set x hk
  rw [h0] at this
  omega
theorem take_over {l : List Nat} {k : Nat} (hk : l.length ≤ k) : val (l.take (k + 1)) = val (l.take k) := by
  rw [List.take_of_length_le hk, List.take_of_length_le (by omega)]
theorem getD_set_ne {l : List Nat} {i j x : Nat} (h : i ≠ j) : (l.set i x).getD j 0 = l.getD j 0 := by
  simp [List.getD_eq_getElem?_getD, List.getElem?_set_ne h]
/-- a place of a sum -/
theorem add_step {O A B : List Nat} {i c t : Nat} (hO : i < O.length) (h0 : O.getD i 0 = 0) (hA : i < A.length) (ht : t = c + A.getD i 0 + B.getD i 0)
    (h : val O + c * BB ^ i = val (A.take i) + val (B.take i)) : val (O.set i (t % BB)) + t / BB * BB ^ (i + 1) = val (A.take (i + 1)) + val (B.take (i + 1)) := by
  have hB : val (B.take (i + 1)) = val (B.take i) + B.getD i 0 * BB ^ i := by
    by_cases hb : i < B.length
    · exact val_take_succ hb
    · rw [take_over (by omega)]; simp [hb]
  rw [val_set0 _ hO h0, val_take_succ hA, hB]
  have e : t * BB ^ i = t / BB * BB ^ (i + 1) + t % BB * BB ^ i := by
    conv => lhs; rw [← Nat.div_add_mod t BB, Nat.add_mul]
    rw [Nat.pow_succ]
    congr 1
    ac_rfl
  have e2 : t * BB ^ i = c * BB ^ i + A.getD i 0 * BB ^ i + B.getD i 0 * BB ^ i := by rw [ht]; simp only [Nat.add_mul]
  omega
/-- a place of a difference: what is borrowed is 0 or 1 -/
theorem sub_step {O A B : List Nat} {i br r br' : Nat} (hO : i < O.length) (h0 : O.getD i 0 = 0) (hA : i < A.length) (hr : r + (br + B.getD i 0) = A.getD i 0 + br' * BB)
    (h : val O + val (B.take i) = val (A.take i) - 0 + br * BB ^ i) : val (O.set i r) + val (B.take (i + 1)) = val (A.take (i + 1)) - 0 + br' * BB ^ (i + 1) := by
  have hB : val (B.take (i + 1)) = val (B.take i) + B.getD i 0 * BB ^ i := by
    by_cases hb : i < B.length
    · exact val_take_succ hb
    · rw [take_over (by omega)]; simp [hb]
  rw [val_set0 _ hO h0, val_take_succ hA, hB]
  have e := congrArg (· * BB ^ i) hr
  simp only [Nat.add_mul] at e
  have e2 : br' * BB * BB ^ i = br' * BB ^ (i + 1) := by rw [Nat.pow_succ]; ac_rfl
  omega
theorem sub_end {A B : List Nat} {V br : Nat} (hA : Limbs A) (hle : val B ≤ val A) (h : V + val (B.take A.length) = val (A.take A.length) - 0 + br * BB ^ A.length) (hV : V < BB ^ A.length) : V + val B = val A := by
  rw [List.take_length] at h
  have hlt := val_lt hA
  have hsplit : val B = val (B.take A.length) + BB ^ A.length * val (B.drop A.length) := by
    by_cases hb : A.length ≤ B.length
    · conv => lhs; rw [← List.take_append_drop A.length B, val_append]
      rw [List.length_take, Nat.min_eq_left hb]
    · rw [List.take_of_length_le (by omega), List.drop_eq_nil_of_le (by omega)]; simp [val]
  have hd : val (B.drop A.length) = 0 := by
    apply Nat.eq_zero_of_not_pos
    intro hp
    have : BB ^ A.length * 1 ≤ BB ^ A.length * val (B.drop A.length) := Nat.mul_le_mul_left _ hp
    omega
  rw [hd] at hsplit
  simp at hsplit
  rw [hsplit]
  cases br with
  | zero => omega
  | succ n =>
    exfalso
    have : BB ^ A.length * 1 ≤ BB ^ A.length * (n + 1) := Nat.mul_le_mul_left _ (by omega)
    rw [Nat.mul_comm] at h
    have e : (n + 1) * BB ^ A.length = BB ^ A.length * (n + 1) := Nat.mul_comm _ _
    omega
/-- a place of a quotient by a limb -/
theorem div_step {O A : List Nat} {j c rest : Nat} (hO : j < O.length) (h0 : O.getD j 0 = 0) (hA : j < A.length)
    (h : val O * c + rest * BB ^ (j + 1) + val (A.take (j + 1)) = val A) :
    val (O.set j ((rest * BB + A.getD j 0) / c)) * c + (rest * BB + A.getD j 0) % c * BB ^ j + val (A.take j) = val A := by
  rw [val_set0 _ hO h0, ← h, val_take_succ hA, Nat.add_mul]
  have e : (rest * BB + A.getD j 0) * BB ^ j = (rest * BB + A.getD j 0) / c * BB ^ j * c + (rest * BB + A.getD j 0) % c * BB ^ j := by
    conv => lhs; rw [← Nat.div_add_mod (rest * BB + A.getD j 0) c, Nat.add_mul]
    congr 1
    ac_rfl
  have e2 : (rest * BB + A.getD j 0) * BB ^ j = rest * BB ^ (j + 1) + A.getD j 0 * BB ^ j := by rw [Nat.add_mul, Nat.pow_succ, Nat.mul_assoc, Nat.mul_comm BB (BB ^ j)]
  omega
theorem div_lt {rest x c : Nat} (hr : rest < c) (hx : x < BB) : (rest * BB + x) / c < BB := by
  apply Nat.div_lt_of_lt_mul
  have : (rest + 1) * BB ≤ c * BB := Nat.mul_le_mul_right _ hr
  rw [Nat.add_mul] at this
  omega
/-- shifting up: a place; m limbs and k bits -/
theorem shl_step {O A : List Nat} {i m p x : Nat} (hO : i + m + 1 < O.length) (h0 : O.getD (i + m + 1) 0 = 0) (hA : i < A.length) (hx : x = A.getD i 0)
    (h : val O = val (A.take i) * (p * BB ^ m)) : val ((O.set (i + m) (O.getD (i + m) 0 + x * p % BB)).set (i + m + 1) (x * p / BB)) = val (A.take (i + 1)) * (p * BB ^ m) := by
  have h1 : (O.set (i + m) (O.getD (i + m) 0 + x * p % BB)).getD (i + m + 1) 0 = 0 := by rw [getD_set_ne (by omega), h0]
  rw [val_set0 _ (by simpa using hO) h1]
  have h2 := val_set (l := O) (k := i + m) (O.getD (i + m) 0 + x * p % BB) (by omega)
  rw [Nat.add_mul (O.getD (i + m) 0)] at h2
  rw [val_take_succ hA, ← hx, Nat.add_mul, ← h]
  have e : x * p * BB ^ (i + m) = x * p / BB * BB ^ (i + m + 1) + x * p % BB * BB ^ (i + m) := by
    conv => lhs; rw [← Nat.div_add_mod (x * p) BB, Nat.add_mul]
    rw [Nat.pow_succ]
    congr 1
    ac_rfl
  have e2 : x * BB ^ i * (p * BB ^ m) = x * p * BB ^ (i + m) := by rw [Nat.pow_add]; ac_rfl
  omega
/-- the low part of a place that is shifted up meets no bit -/
theorem or_low {x k o : Nat} (ho : o < 2 ^ k) (hk : k ≤ 32) : (x * 2 ^ k % BB) ||| o = o + x * 2 ^ k % BB := by
  have e : BB = 2 ^ k * 2 ^ (32 - k) := by rw [← Nat.pow_add, Nat.add_sub_cancel' hk]; rfl
  have e2 : x * 2 ^ k % BB = 2 ^ k * (x % 2 ^ (32 - k)) := by rw [e, Nat.mul_comm x, Nat.mul_mod_mul_left]
  rw [e2, ← Nat.two_pow_add_eq_or_of_lt ho]
  omega
theorem shl_hi {x k : Nat} (hx : x < BB) : x * 2 ^ k / BB < 2 ^ k := by
  apply Nat.div_lt_of_lt_mul
  rw [Nat.mul_comm BB, Nat.mul_comm]
  exact Nat.mul_lt_mul_of_pos_left hx (Nat.pow_pos (by omega))
theorem shl_lo {x k o : Nat} (ho : o < 2 ^ k) (hk : k ≤ 32) : o + x * 2 ^ k % BB < BB := by
  have e : BB = 2 ^ k * 2 ^ (32 - k) := by rw [← Nat.pow_add, Nat.add_sub_cancel' hk]; rfl
  have e2 : x * 2 ^ k % BB = 2 ^ k * (x % 2 ^ (32 - k)) := by rw [e, Nat.mul_comm x, Nat.mul_mod_mul_left]
  rw [e2, e]
  have h1 : x % 2 ^ (32 - k) < 2 ^ (32 - k) := Nat.mod_lt _ (Nat.pow_pos (by omega))
  have h2 : 2 ^ k * (x % 2 ^ (32 - k) + 1) ≤ 2 ^ k * 2 ^ (32 - k) := Nat.mul_le_mul_left _ h1
  rw [Nat.mul_add] at h2
  omega
/-- shifting down by less than a limb -/
def shrL (k : Nat) : List Nat → List Nat
  | [] => []
  | x :: l => (x + l.getD 0 0 * BB) / 2 ^ k % BB :: shrL k l
theorem shrL_len (k : Nat) (l : List Nat) : (shrL k l).length = l.length := by
  induction l with
  | nil => rfl
  | cons x l ih => simp [shrL, ih]
theorem shrL_get (k : Nat) (l : List Nat) (i : Nat) (hi : i < l.length) : (shrL k l).getD i 0 = (l.getD i 0 + l.getD (i + 1) 0 * BB) / 2 ^ k % BB := by
  induction l generalizing i with
  | nil => simp at hi
  | cons x l ih =>
    cases i with
    | zero => rw [shrL, List.getD_cons_zero, List.getD_cons_zero, List.getD_cons_succ]
    | succ i => rw [shrL, List.getD_cons_succ, List.getD_cons_succ, List.getD_cons_succ]; exact ih i (by simpa using hi)
theorem shrL_limbs (k : Nat) (l : List Nat) : Limbs (shrL k l) := by
  induction l with
  | nil => intro x hx; cases hx
  | cons x l ih =>
    intro y hy
    rcases List.mem_cons.1 hy with rfl | h
    · exact Nat.mod_lt _ BB_pos
    · exact ih y h
theorem shr_arith {B b K x V y : Nat} (e : B = b * K) (hp : 0 < b) (hx : x < B) (hmod : V % b = y % b) : (x + y * B) / b % B + B * (V / b) = (x + B * V) / b := by
  have h1 : (x + B * V) / b = x / b + K * V := by rw [e, Nat.mul_assoc, Nat.add_mul_div_left _ _ hp]
  have h2 : (x + y * B) / b = x / b + K * y := by rw [e, show y * (b * K) = b * (K * y) from by ac_rfl, Nat.add_mul_div_left _ _ hp]
  rw [h1, h2]
  have hxb : x / b < K := Nat.div_lt_of_lt_mul (by rw [← e]; exact hx)
  have key : ∀ z, (x / b + K * z) % B = x / b + K * (z % b) := fun z => by
    have e3 : K * z = B * (z / b) + K * (z % b) := by
      conv => lhs; rw [← Nat.div_add_mod z b, Nat.mul_add]
      rw [e]
      congr 1
      ac_rfl
    rw [e3, show x / b + (B * (z / b) + K * (z % b)) = x / b + K * (z % b) + B * (z / b) from by omega, Nat.add_mul_mod_self_left]
    apply Nat.mod_eq_of_lt
    have h5 : z % b + 1 ≤ b := Nat.mod_lt _ hp
    have h6 : K * (z % b + 1) ≤ K * b := Nat.mul_le_mul_left _ h5
    rw [Nat.mul_add] at h6
    rw [e, Nat.mul_comm b K]
    omega
  rw [key, ← hmod]
  have e4 : K * V = B * (V / b) + K * (V % b) := by
    conv => lhs; rw [← Nat.div_add_mod V b, Nat.mul_add]
    rw [e]
    congr 1
    ac_rfl
  omega
theorem BB_split {k : Nat} (hk : k ≤ 32) : BB = 2 ^ k * 2 ^ (32 - k) := by rw [← Nat.pow_add, Nat.add_sub_cancel' hk]; rfl
theorem val_mod (k : Nat) (hk : k ≤ 32) (l : List Nat) : val l % 2 ^ k = l.getD 0 0 % 2 ^ k := by
  cases l with
  | nil => rfl
  | cons y l =>
    rw [val, BB_split hk, Nat.mul_assoc, Nat.add_mul_mod_self_left]
    rfl
theorem shrL_val (k : Nat) (hk : k < 32) (l : List Nat) (hl : Limbs l) : val (shrL k l) = val l / 2 ^ k := by
  induction l with
  | nil => simp [shrL, val]
  | cons x l ih =>
    have hx := hl x (by simp)
    have ih := ih (fun y hy => hl y (by simp [hy]))
    rw [shrL, val, val, ih]
    exact shr_arith (BB_split (by omega)) (Nat.pow_pos (by omega)) hx (val_mod k (by omega) l)
theorem val_drop {l : List Nat} {m : Nat} (hl : Limbs l) (hm : m ≤ l.length) : val (l.drop m) = val l / BB ^ m := by
  have h : val l = val (l.take m) + BB ^ m * val (l.drop m) := by
    conv => lhs; rw [← List.take_append_drop m l, val_append]
    rw [List.length_take, Nat.min_eq_left hm]
  have h2 := val_lt (limbs_take hl m)
  rw [List.length_take, Nat.min_eq_left hm] at h2
  rw [h, Nat.add_mul_div_left _ _ (Nat.pow_pos BB_pos), Nat.div_eq_of_lt h2, Nat.zero_add]
end Go.Proofs.YthaohpfbengabaaGreatDoor.Num

/- limb: Add, Sub. -/
namespace Go.Proofs.YthaohpfbengabaaGreatDoor
open Num
open Go.ChangeShapes Go.WideShapes Go.ChangeAt Go.RowKit
set_option linter.unusedVariables false
set_option linter.unusedSimpArgs false
/-- what a function of the layer answers: limbs without high noughts that stand for v -/
def NewL (w' : World) (u : Value) (v : Nat) : Prop := ∃ a n L, u = .slice a n n ∧ n = List.length L ∧ U32 w' a n L ∧ Nrm L ∧ val L = v


set_option maxRecDepth 100000 in
set_option maxHeartbeats 4000000 in
theorem limbAdd_c (a b : Option Addr) (ca cb : Nat) (l m : List Nat) (w : World) (ha : U32 w a ca l) (hb : U32 w b cb m) (h1 : l.length ≤ 1099511627776) (h2 : m.length ≤ 1099511627776) :
    Calls Tryz.prog 139 #[.slice a l.length ca, .slice b m.length cb] w fun e w' => (∃ u, e = .returned u ∧ NewL w' u (val l + val m)) ∧ Below w.heap.size w w' := by
  by_cases hll : l.length < m.length
  ·
    have hmk := mk32 (m.length + 1) (by omega)
    have ec : ((m.length + 1 : Nat) : Int) = (m.length : Int) + 1 := by omega
    rw [ec] at hmk
    clear ec
    go_enter Tryz.func139, Tryz.ntmps139
    go_wp2
    clear hmk
    go_loopw [6, 22] (fun cv x wr => ∃ (i c : Nat) (O : List Nat), i ≤ m.length ∧ x = .int .i64 i ∧ cv = .int .u64 c ∧ c ≤ 1 ∧ Blk wr w.heap.size O ∧ Hid (O.length = m.length + 1) ∧ Limbs O ∧ (∀ j, i ≤ j → O.getD j 0 = 0) ∧ Hid (val O + c * BB ^ i = val (m.take i) + val (l.take i)) ∧ Below w.heap.size w wr) (fun _ x _ => m.length - (intOf x).toNat)
    case atStart => exact ⟨0, 0, List.replicate (m.length + 1) 0, by omega, rfl, rfl, by omega, blk_new w _, Lib.hid (by simp), (fun y hy => by simp at hy; rw [hy]; exact BB_pos), (fun j hj => by simp [List.getElem?_replicate]; split <;> rfl), Lib.hid (by simp [val, val_zeros]), bal (Below.refl _ _) _⟩
    case round =>
      obtain ⟨i, c, O, hi, rfl, rfl, hc1, hO, hOl, hOL, hO0, hV, hB⟩ := hrel
      have hol := hOl.out
      by_cases hlt : i < m.length
      · rcases hb.2.2.2 with hl0 | ⟨ba, oa, rfl, hca⟩
        · subst hl0; simp at hlt
        have c0 := bkeep hB (hca i hlt)
        have hx := limb_get hb.2.2.1 i
        have q0 := hO.cell i (by omega)
        have qf := hO.frozen i
        have HS := Lib.hid (add_step (O := O) (A := m) (B := l) (i := i) (c := c) (t := c + m.getD i 0 + l.getD i 0) (by omega) (hO0 i (Nat.le_refl _)) hlt rfl hV.out)
        by_cases hlm : i < l.length
        · rcases ha.2.2.2 with hm0 | ⟨bb, ob, rfl, hcb⟩
          · subst hm0; simp at hlm
          have d0 := bkeep hB (hcb i hlm)
          have hy := limb_get ha.2.2.1 i
          generalize m.getD i 0 = x at *
          generalize l.getD i 0 = y at *
          generalize O.getD i 0 = o at *
          have e1 := w64 (BB_sq x hx)
          have e2 := w64 (BB_sq y hy)
          have e3 : IntKind.u64.wrap ((c : Int) + (x : Int)) = ((c + x : Nat) : Int) := by rw [← Int.natCast_add]; exact w64 (by unfold BB at *; omega)
          have e4 : IntKind.u64.wrap (((c + x : Nat) : Int) + (y : Int)) = ((c + x + y : Nat) : Int) := by rw [← Int.natCast_add]; exact w64 (by unfold BB at *; omega)
          have ht : c + x + y < 2 * BB := by omega
          generalize c + x = t1 at e3 e4 HS ht
          generalize t1 + y = t at e4 HS ht
          have qb := hO.set i (t % BB)
          have ql := limbs_set hOL (k := i) (Nat.mod_lt t BB_pos)
          have eqb : ((t % BB : Nat) : Int) = (t : Int) % 4294967296 := by unfold BB; omega
          rw [eqb] at qb
          have bs := bset hB (p := ⟨w.heap.size, i, none⟩) (Nat.le_refl _) (.int .u32 ((t : Int) % 4294967296))
          clear hol eqb
          go_wp2
          refine ⟨⟨i + 1, t / BB, O.set i (t % BB), by omega, rfl, by unfold BB; simp, by unfold BB at *; omega, qb, Lib.hid (by simpa using hOl.out), ql, ?_, HS, bs⟩, by simp [intOf] <;> omega⟩
          intro j hj
          rw [Num.getD_set_ne (by omega)]
          exact hO0 j (by omega)
        · have hy0 : l.getD i 0 = 0 := by simp [hlm]
          rw [hy0] at HS
          have hlm' : decide (i < l.length) = false := by simp; omega
          generalize m.getD i 0 = x at *
          generalize O.getD i 0 = o at *
          have e1 := w64 (BB_sq x hx)
          have e3 : IntKind.u64.wrap ((c : Int) + (x : Int)) = ((c + x : Nat) : Int) := by rw [← Int.natCast_add]; exact w64 (by unfold BB at *; omega)
          have ht : c + x + 0 < 2 * BB := by omega
          rw [Nat.add_zero] at HS ht
          clear hy0
          generalize c + x = t at e3 HS ht
          have qb := hO.set i (t % BB)
          have ql := limbs_set hOL (k := i) (Nat.mod_lt t BB_pos)
          have eqb : ((t % BB : Nat) : Int) = (t : Int) % 4294967296 := by unfold BB; omega
          rw [eqb] at qb
          have bs := bset hB (p := ⟨w.heap.size, i, none⟩) (Nat.le_refl _) (.int .u32 ((t : Int) % 4294967296))
          clear hol eqb
          go_wp2
          refine ⟨⟨i + 1, t / BB, O.set i (t % BB), by omega, rfl, by unfold BB; simp, by unfold BB at *; omega, qb, Lib.hid (by simpa using hOl.out), ql, ?_, HS, bs⟩, by simp [intOf] <;> omega⟩
          intro j hj
          rw [Num.getD_set_ne (by omega)]
          exact hO0 j (by omega)
      · obtain rfl : i = m.length := by omega
        have hV2 := val_set0 c (show m.length < O.length by omega) (hO0 _ (Nat.le_refl _))
        have q0 := hO.cell m.length (by omega)
        have qf := hO.frozen m.length
        have qb := hO.set m.length c
        have ql := limbs_set hOL (k := m.length) (x := c) (by unfold BB; omega)
        have ec : (c : Int) % 4294967296 = c := by omega
        have hm2 : val (l.take m.length) = val l := by rw [List.take_of_length_le (by omega)]
        have HV := Lib.hid (show val (O.set m.length c) = val l + val m by have := hV.out; rw [List.take_length, hm2] at this; omega)
        have hu := qb.u32 ql (by simp [hol]; unfold maxLen; omega)
        have tc := trim_c _ _ _ _ hu
        have HT := Lib.hid (val_trim (O.set m.length c))
        have HN := trim_nrm (O.set m.length c)
        have hu2 := hu.trim
        have hl2 : (O.set m.length c).length = m.length + 1 := by simp [hol]
        generalize hOQ : O.set m.length c = Q at *
        generalize trimL Q = T at *
        rw [hl2] at tc
        clear hV2 hm2 hV hOl hOQ hu hl2 hol
        have hB2 := bset hB (p := ⟨w.heap.size, m.length, none⟩) (Nat.le_refl _) (.int .u32 (c : Int))
        go_wp2_with fail
        refine tc.mono ?_
        rintro e w1 ⟨rfl, rfl⟩
        clear tc
        go_wp2
        go_ret
        exact ⟨⟨_, rfl, _, _, T, rfl, rfl, hu2, HN, by rw [HT.out, HV.out]⟩, hB2⟩
  ·
    have hmk := mk32 (l.length + 1) (by omega)
    have ec : ((l.length + 1 : Nat) : Int) = (l.length : Int) + 1 := by omega
    rw [ec] at hmk
    clear ec
    go_enter Tryz.func139, Tryz.ntmps139
    go_wp2
    clear hmk
    go_loopw [6, 22] (fun cv x wr => ∃ (i c : Nat) (O : List Nat), i ≤ l.length ∧ x = .int .i64 i ∧ cv = .int .u64 c ∧ c ≤ 1 ∧ Blk wr w.heap.size O ∧ Hid (O.length = l.length + 1) ∧ Limbs O ∧ (∀ j, i ≤ j → O.getD j 0 = 0) ∧ Hid (val O + c * BB ^ i = val (l.take i) + val (m.take i)) ∧ Below w.heap.size w wr) (fun _ x _ => l.length - (intOf x).toNat)
    case atStart => exact ⟨0, 0, List.replicate (l.length + 1) 0, by omega, rfl, rfl, by omega, blk_new w _, Lib.hid (by simp), (fun y hy => by simp at hy; rw [hy]; exact BB_pos), (fun j hj => by simp [List.getElem?_replicate]; split <;> rfl), Lib.hid (by simp [val, val_zeros]), bal (Below.refl _ _) _⟩
    case round =>
      obtain ⟨i, c, O, hi, rfl, rfl, hc1, hO, hOl, hOL, hO0, hV, hB⟩ := hrel
      have hol := hOl.out
      by_cases hlt : i < l.length
      · rcases ha.2.2.2 with hl0 | ⟨ba, oa, rfl, hca⟩
        · subst hl0; simp at hlt
        have c0 := bkeep hB (hca i hlt)
        have hx := limb_get ha.2.2.1 i
        have q0 := hO.cell i (by omega)
        have qf := hO.frozen i
        have HS := Lib.hid (add_step (O := O) (A := l) (B := m) (i := i) (c := c) (t := c + l.getD i 0 + m.getD i 0) (by omega) (hO0 i (Nat.le_refl _)) hlt rfl hV.out)
        by_cases hlm : i < m.length
        · rcases hb.2.2.2 with hm0 | ⟨bb, ob, rfl, hcb⟩
          · subst hm0; simp at hlm
          have d0 := bkeep hB (hcb i hlm)
          have hy := limb_get hb.2.2.1 i
          generalize l.getD i 0 = x at *
          generalize m.getD i 0 = y at *
          generalize O.getD i 0 = o at *
          have e1 := w64 (BB_sq x hx)
          have e2 := w64 (BB_sq y hy)
          have e3 : IntKind.u64.wrap ((c : Int) + (x : Int)) = ((c + x : Nat) : Int) := by rw [← Int.natCast_add]; exact w64 (by unfold BB at *; omega)
          have e4 : IntKind.u64.wrap (((c + x : Nat) : Int) + (y : Int)) = ((c + x + y : Nat) : Int) := by rw [← Int.natCast_add]; exact w64 (by unfold BB at *; omega)
          have ht : c + x + y < 2 * BB := by omega
          generalize c + x = t1 at e3 e4 HS ht
          generalize t1 + y = t at e4 HS ht
          have qb := hO.set i (t % BB)
          have ql := limbs_set hOL (k := i) (Nat.mod_lt t BB_pos)
          have eqb : ((t % BB : Nat) : Int) = (t : Int) % 4294967296 := by unfold BB; omega
          rw [eqb] at qb
          have bs := bset hB (p := ⟨w.heap.size, i, none⟩) (Nat.le_refl _) (.int .u32 ((t : Int) % 4294967296))
          clear hol eqb
          go_wp2
          refine ⟨⟨i + 1, t / BB, O.set i (t % BB), by omega, rfl, by unfold BB; simp, by unfold BB at *; omega, qb, Lib.hid (by simpa using hOl.out), ql, ?_, HS, bs⟩, by simp [intOf] <;> omega⟩
          intro j hj
          rw [Num.getD_set_ne (by omega)]
          exact hO0 j (by omega)
        · have hy0 : m.getD i 0 = 0 := by simp [hlm]
          rw [hy0] at HS
          have hlm' : decide (i < m.length) = false := by simp; omega
          generalize l.getD i 0 = x at *
          generalize O.getD i 0 = o at *
          have e1 := w64 (BB_sq x hx)
          have e3 : IntKind.u64.wrap ((c : Int) + (x : Int)) = ((c + x : Nat) : Int) := by rw [← Int.natCast_add]; exact w64 (by unfold BB at *; omega)
          have ht : c + x + 0 < 2 * BB := by omega
          rw [Nat.add_zero] at HS ht
          clear hy0
          generalize c + x = t at e3 HS ht
          have qb := hO.set i (t % BB)
          have ql := limbs_set hOL (k := i) (Nat.mod_lt t BB_pos)
          have eqb : ((t % BB : Nat) : Int) = (t : Int) % 4294967296 := by unfold BB; omega
          rw [eqb] at qb
          have bs := bset hB (p := ⟨w.heap.size, i, none⟩) (Nat.le_refl _) (.int .u32 ((t : Int) % 4294967296))
          clear hol eqb
          go_wp2
          refine ⟨⟨i + 1, t / BB, O.set i (t % BB), by omega, rfl, by unfold BB; simp, by unfold BB at *; omega, qb, Lib.hid (by simpa using hOl.out), ql, ?_, HS, bs⟩, by simp [intOf] <;> omega⟩
          intro j hj
          rw [Num.getD_set_ne (by omega)]
          exact hO0 j (by omega)
      · obtain rfl : i = l.length := by omega
        have hV2 := val_set0 c (show l.length < O.length by omega) (hO0 _ (Nat.le_refl _))
        have q0 := hO.cell l.length (by omega)
        have qf := hO.frozen l.length
        have qb := hO.set l.length c
        have ql := limbs_set hOL (k := l.length) (x := c) (by unfold BB; omega)
        have ec : (c : Int) % 4294967296 = c := by omega
        have hm2 : val (m.take l.length) = val m := by rw [List.take_of_length_le (by omega)]
        have HV := Lib.hid (show val (O.set l.length c) = val l + val m by have := hV.out; rw [List.take_length, hm2] at this; omega)
        have hu := qb.u32 ql (by simp [hol]; unfold maxLen; omega)
        have tc := trim_c _ _ _ _ hu
        have HT := Lib.hid (val_trim (O.set l.length c))
        have HN := trim_nrm (O.set l.length c)
        have hu2 := hu.trim
        have hl2 : (O.set l.length c).length = l.length + 1 := by simp [hol]
        generalize hOQ : O.set l.length c = Q at *
        generalize trimL Q = T at *
        rw [hl2] at tc
        clear hV2 hm2 hV hOl hOQ hu hl2 hol
        have hB2 := bset hB (p := ⟨w.heap.size, l.length, none⟩) (Nat.le_refl _) (.int .u32 (c : Int))
        go_wp2_with fail
        refine tc.mono ?_
        rintro e w1 ⟨rfl, rfl⟩
        clear tc
        go_wp2
        go_ret
        exact ⟨⟨_, rfl, _, _, T, rfl, rfl, hu2, HN, by rw [HT.out, HV.out]⟩, hB2⟩
namespace Num
theorem cmpN_ge {x y : Nat} (h : y ≤ x) : ¬ cmpN x y < 0 := by
  unfold cmpN; rw [if_neg (by omega)]; split <;> omega
end Num

set_option maxRecDepth 100000 in
set_option maxHeartbeats 4000000 in
theorem limbSub_c (a b : Option Addr) (ca cb : Nat) (l m : List Nat) (w : World) (ha : U32 w a ca l) (hb : U32 w b cb m) (h1 : l.length ≤ 1099511627776) (hle : val m ≤ val l) :
    Calls Tryz.prog 140 #[.slice a l.length ca, .slice b m.length cb] w fun e w' => (∃ u, e = .returned (.tuple #[u, .int .i64 0]) ∧ NewL w' u (val l - val m)) ∧ Below w.heap.size w w' := by
  have hmk := mk32 l.length (by omega)
  have cc := limbCmp_c a b ca cb l m w ha hb
  have hcz : decide (cmpN (val l) (val m) < 0) = false := by simpa using cmpN_ge hle
  have HLE := Lib.hid hle
  clear hle
  generalize cmpN (val l) (val m) = z at *
  go_enter Tryz.func140, Tryz.ntmps140
  go_wp2_with fail
  refine cc.mono ?_
  rintro e w0 ⟨rfl, hb0⟩
  clear cc
  have ha0 := ha.keep hb0
  have hb1 := hb.keep hb0
  have HB0 := Lib.hid hb0
  clear ha hb hb0
  go_wp2
  clear hmk hcz
  go_loopw [7, 21] (fun cv x wr => ∃ (i c : Nat) (O : List Nat), i ≤ l.length ∧ x = .int .i64 i ∧ cv = .int .u64 c ∧ c ≤ 1 ∧ Blk wr w0.heap.size O ∧ Hid (O.length = l.length) ∧ Limbs O ∧ (∀ j, i ≤ j → O.getD j 0 = 0) ∧ Hid (val O + val (m.take i) = val (l.take i) - 0 + c * BB ^ i) ∧ Below w0.heap.size w0 wr) (fun _ x _ => l.length - (intOf x).toNat)
  case atStart => exact ⟨0, 0, List.replicate l.length 0, by omega, rfl, rfl, by omega, blk_new w0 _, Lib.hid (by simp), (fun y hy => by simp at hy; rw [hy.2]; exact BB_pos), (fun j hj => by simp [List.getElem?_replicate]; split <;> rfl), Lib.hid (by simp [val, val_zeros]), bal (Below.refl _ _) _⟩
  case round =>
    obtain ⟨i, c, O, hi, rfl, rfl, hc1, hO, hOl, hOL, hO0, hV, hB⟩ := hrel
    have hol := hOl.out
    by_cases hlt : i < l.length
    · rcases ha0.2.2.2 with hl0 | ⟨ba, oa, rfl, hca⟩
      · subst hl0; simp at hlt
      have c0 := bkeep hB (hca i hlt)
      have hx := limb_get ha0.2.2.1 i
      have q0 := hO.cell i (by omega)
      have qf := hO.frozen i
      have HS := Lib.hid (fun r br' hr => sub_step (O := O) (A := l) (B := m) (i := i) (br := c) (r := r) (br' := br') (by omega) (hO0 i (Nat.le_refl _)) hlt hr hV.out)
      by_cases hlm : i < m.length
      · rcases hb1.2.2.2 with hm0 | ⟨bb, ob, rfl, hcb⟩
        · subst hm0; simp at hlm
        have d0 := bkeep hB (hcb i hlm)
        have hy := limb_get hb1.2.2.1 i
        generalize l.getD i 0 = x at *
        generalize m.getD i 0 = y at *
        generalize O.getD i 0 = o at *
        have e1 := w64 (BB_sq x hx)
        have e2 := w64 (BB_sq y hy)
        have e3 : IntKind.u64.wrap ((c : Int) + (y : Int)) = ((c + y : Nat) : Int) := by rw [← Int.natCast_add]; exact w64 (by unfold BB at *; omega)
        have ht : c + y ≤ BB := by omega
        generalize c + y = y1 at e3 HS ht
        by_cases hlow : y1 ≤ x
        · have e4 : IntKind.u64.wrap ((x : Int) - (y1 : Int)) = ((x - y1 : Nat) : Int) := by rw [show (x : Int) - (y1 : Int) = ((x - y1 : Nat) : Int) by omega]; exact w64 (by unfold BB at *; omega)
          have hr1 : x - y1 < BB := by omega
          have HR := Lib.hid (HS.out (x - y1) 0 (by omega))
          generalize x - y1 = r at *
          have e5 : (r : Int) / 4294967296 = 0 := by unfold BB at hr1; omega
          have e6 : (r : Int) % 4294967296 = (r : Int) := by unfold BB at hr1; omega
          have b0 : bits .and .u64 0 1 = 0 := by rfl
          have qb := hO.set i r
          have ql := limbs_set hOL (k := i) hr1
          have bs := bset hB (p := ⟨w0.heap.size, i, none⟩) (Nat.le_refl _) (.int .u32 (r : Int))
          clear hol
          go_wp2
          refine ⟨⟨i + 1, 0, O.set i r, by omega, by go_num, rfl, by omega, qb, Lib.hid (by simpa using hOl.out), ql, ?_, HR, bs⟩, by simp [intOf] <;> omega⟩
          intro j hj
          rw [Num.getD_set_ne (by omega)]
          exact hO0 j (by omega)
        · have e4 : IntKind.u64.wrap ((x : Int) - (y1 : Int)) = ((18446744073709551616 - (y1 - x) : Nat) : Int) := by
            simp only [IntKind.wrap, IntKind.bits, IntKind.signed]
            simp
            unfold BB at *
            omega
          have hr1 : BB + x - y1 < BB := by omega
          have HR := Lib.hid (HS.out (BB + x - y1) 1 (by omega))
          have e6 : ((18446744073709551616 - (y1 - x) : Nat) : Int) % 4294967296 = ((BB + x - y1 : Nat) : Int) := by unfold BB at *; omega
          have e5 : ((18446744073709551616 - (y1 - x) : Nat) : Int) / 4294967296 = 4294967295 := by unfold BB at *; omega
          have hDD : 18446744073709551616 - (y1 - x) < 18446744073709551616 := by omega
          generalize 18446744073709551616 - (y1 - x) = D at e4 e5 e6 hDD
          generalize BB + x - y1 = r at *
          have b0 : bits .and .u64 4294967295 1 = 1 := by rfl
          have qb := hO.set i r
          have ql := limbs_set hOL (k := i) hr1
          have bs := bset hB (p := ⟨w0.heap.size, i, none⟩) (Nat.le_refl _) (.int .u32 (r : Int))
          clear hol hDD
          go_wp2
          refine ⟨⟨i + 1, 1, O.set i r, by omega, by go_num, rfl, by omega, qb, Lib.hid (by simpa using hOl.out), ql, ?_, HR, bs⟩, by simp [intOf] <;> omega⟩
          intro j hj
          rw [Num.getD_set_ne (by omega)]
          exact hO0 j (by omega)
      · have hy0 : m.getD i 0 = 0 := by simp [hlm]
        rw [hy0] at HS
        have hlm' : decide (i < m.length) = false := by simp; omega
        generalize l.getD i 0 = x at *
        generalize O.getD i 0 = o at *
        have e1 := w64 (BB_sq x hx)
        have ht : c + 0 ≤ BB := by unfold BB; omega
        rw [Nat.add_zero] at HS ht
        obtain ⟨y1, hy1⟩ : ∃ y1, y1 = c := ⟨_, rfl⟩
        subst hy1
        clear hy0
        by_cases hlow : y1 ≤ x
        · have e4 : IntKind.u64.wrap ((x : Int) - (y1 : Int)) = ((x - y1 : Nat) : Int) := by rw [show (x : Int) - (y1 : Int) = ((x - y1 : Nat) : Int) by omega]; exact w64 (by unfold BB at *; omega)
          have hr1 : x - y1 < BB := by omega
          have HR := Lib.hid (HS.out (x - y1) 0 (by omega))
          generalize x - y1 = r at *
          have e5 : (r : Int) / 4294967296 = 0 := by unfold BB at hr1; omega
          have e6 : (r : Int) % 4294967296 = (r : Int) := by unfold BB at hr1; omega
          have b0 : bits .and .u64 0 1 = 0 := by rfl
          have qb := hO.set i r
          have ql := limbs_set hOL (k := i) hr1
          have bs := bset hB (p := ⟨w0.heap.size, i, none⟩) (Nat.le_refl _) (.int .u32 (r : Int))
          clear hol
          go_wp2
          refine ⟨⟨i + 1, 0, O.set i r, by omega, by go_num, rfl, by omega, qb, Lib.hid (by simpa using hOl.out), ql, ?_, HR, bs⟩, by simp [intOf] <;> omega⟩
          intro j hj
          rw [Num.getD_set_ne (by omega)]
          exact hO0 j (by omega)
        · have e4 : IntKind.u64.wrap ((x : Int) - (y1 : Int)) = ((18446744073709551616 - (y1 - x) : Nat) : Int) := by
            simp only [IntKind.wrap, IntKind.bits, IntKind.signed]
            simp
            unfold BB at *
            omega
          have hr1 : BB + x - y1 < BB := by omega
          have HR := Lib.hid (HS.out (BB + x - y1) 1 (by omega))
          have e6 : ((18446744073709551616 - (y1 - x) : Nat) : Int) % 4294967296 = ((BB + x - y1 : Nat) : Int) := by unfold BB at *; omega
          have e5 : ((18446744073709551616 - (y1 - x) : Nat) : Int) / 4294967296 = 4294967295 := by unfold BB at *; omega
          have hDD : 18446744073709551616 - (y1 - x) < 18446744073709551616 := by omega
          generalize 18446744073709551616 - (y1 - x) = D at e4 e5 e6 hDD
          generalize BB + x - y1 = r at *
          have b0 : bits .and .u64 4294967295 1 = 1 := by rfl
          have qb := hO.set i r
          have ql := limbs_set hOL (k := i) hr1
          have bs := bset hB (p := ⟨w0.heap.size, i, none⟩) (Nat.le_refl _) (.int .u32 (r : Int))
          clear hol hDD
          go_wp2
          refine ⟨⟨i + 1, 1, O.set i r, by omega, by go_num, rfl, by omega, qb, Lib.hid (by simpa using hOl.out), ql, ?_, HR, bs⟩, by simp [intOf] <;> omega⟩
          intro j hj
          rw [Num.getD_set_ne (by omega)]
          exact hO0 j (by omega)
    · obtain rfl : i = l.length := by omega
      have hlt2 := val_lt hOL
      rw [hol] at hlt2
      have HV := Lib.hid (show val O = val l - val m by have := sub_end ha0.2.2.1 HLE.out hV.out hlt2; omega)
      have hu := hO.u32 hOL (by rw [hol]; unfold maxLen; omega)
      have tc := trim_c _ _ _ _ hu
      have HT := Lib.hid (val_trim O)
      have HN := trim_nrm O
      have hu2 := hu.trim
      generalize trimL O = T at *
      rw [hol] at tc
      clear hV hOl hu hol hlt2
      have hB2 := bthen HB0.out hB
      go_wp2_with fail
      refine tc.mono ?_
      rintro e w1 ⟨rfl, rfl⟩
      clear tc
      go_wp2
      go_ret2
      exact ⟨⟨_, rfl, _, _, T, rfl, rfl, hu2, HN, by rw [HT.out, HV.out]⟩, hB2⟩
end Go.Proofs.YthaohpfbengabaaGreatDoor

/- Plain: the reference's sums, differences, binary digits. -/
namespace Go.Proofs.YthaohpfbengabaaGreatDoor.NumR
open Num (Nrm bitN bitN_half trimL)
theorem take_any (l : List Nat) (k : Nat) : val (l.take (k + 1)) = val (l.take k) + l.getD k 0 * BB ^ k := by
  by_cases h : k < l.length
  · exact val_take_succ h
  · rw [List.take_of_length_le (by omega), List.take_of_length_le (by omega)]; simp [show l.length ≤ k by omega]
theorem BB_pow (n : Nat) : BB ^ n = 2 ^ (16 * n) := by rw [Nat.pow_mul]; rfl
end Go.Proofs.YthaohpfbengabaaGreatDoor.NumR

/- The reference's numbers: plus, minus. -/
namespace Go.Proofs.YthaohpfbengabaaGreatDoor
open Num
open Go.ChangeShapes Go.WideShapes Go.ChangeAt Go.RowKit
set_option linter.unusedVariables false
set_option linter.unusedSimpArgs false

end Go.Proofs.YthaohpfbengabaaGreatDoor

/- slices.Clone at []int. -/
namespace Go.Proofs.YthaohpfbengabaaGreatDoor
open Go.ChangeShapes Go.WideShapes Go.ChangeAt Go.RowKit
set_option linter.unusedVariables false
set_option linter.unusedSimpArgs false
end Go.Proofs.YthaohpfbengabaaGreatDoor

/- slices.Clone at []Instr. -/
namespace Go.Proofs.YthaohpfbengabaaGreatDoor
open Go.ChangeShapes Go.WideShapes Go.ChangeAt Go.RowKit
set_option linter.unusedVariables false
set_option linter.unusedSimpArgs false
def Ins.cel (i : Ins) : List Value := [.int .i64 i.op, .int .i64 i.to, .int .i64 i.a, .int .i64 i.b, .int .i64 i.c]
theorem InsAt.at {w : World} {b off : Nat} {i : Ins} (h : InsAt w b off i) {r : Nat} (hr : r < 5) {u : Value} (hu : (Ins.cel i)[r]? = some u) : w.cell? ⟨b, off + r, none⟩ = some u := by
  have : r = 0 ∨ r = 1 ∨ r = 2 ∨ r = 3 ∨ r = 4 := by omega
  rcases this with rfl | rfl | rfl | rfl | rfl <;> (simp [Ins.cel] at hu; subst hu)
  · exact h.c0
  · exact h.c1
  · exact h.c2
  · exact h.c3
  · exact h.c4
end Go.Proofs.YthaohpfbengabaaGreatDoor

