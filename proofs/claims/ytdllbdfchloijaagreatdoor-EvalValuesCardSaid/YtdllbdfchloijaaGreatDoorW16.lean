/- Texts of this seat, laid together: Dec, TxtR, RefE, Rng, RefS, RefO, RefQ. Each opens with its own remark, which says what it proves, and under which conditions. -/
import Derived.Test.YtdllbdfchloijaaGreatDoorW04
import Derived.Test.YtdllbdfchloijaaGreatDoorW14
import Derived.Test.YtdllbdfchloijaaGreatDoorW05
import Derived.Laws.IdiomStrings
import Derived.Laws.BytesArg
import Derived.Deep.LoopGhost
import Derived.Test.YtdllbdfchloijaaGreatDoorW06
import Derived.Test.YtdllbdfchloijaaGreatDoorW15
import Derived.Test.YtdllbdfchloijaaGreatDoorW02
import Derived.Test.YtdllbdfchloijaaGreatDoorW13
import Derived.Deep.DeepCutAuto
import Derived.Deep.RegionLaw
set_option linter.unusedVariables false
set_option linter.unusedSimpArgs false
/- Plain: decimal digits, low one first; nine at a time; a number's text. -/
namespace Go.Proofs.YtdllbdfchloijaaGreatDoor.Num
/-- the decimal digits of a number, low one first; none of 0 -/
def lowD : Nat → List Nat
  | 0 => []
  | n + 1 => (n + 1) % 10 :: lowD ((n + 1) / 10)
decreasing_by omega
theorem lowD_zero : lowD 0 = [] := by rw [lowD]
theorem lowD_pos {n : Nat} (h : 0 < n) : lowD n = n % 10 :: lowD (n / 10) := by
  cases n with
  | zero => omega
  | succ n => rw [lowD]
theorem lowD_lt (n : Nat) : ∀ d ∈ lowD n, d < 10 := by
  induction n using Nat.strongRecOn with
  | _ n ih =>
    intro d hd
    by_cases h : 0 < n
    · rw [lowD_pos h] at hd
      rcases List.mem_cons.1 hd with rfl | hd
      · omega
      · exact ih (n / 10) (by omega) d hd
    · obtain rfl : n = 0 := by omega
      rw [lowD_zero] at hd; cases hd
theorem lowD_ne {n : Nat} (h : 0 < n) : lowD n ≠ [] := by rw [lowD_pos h]; simp
theorem lowD_len (k : Nat) : ∀ n, n < 2 ^ k → (lowD n).length ≤ k := by
  induction k with
  | zero => intro n h; obtain rfl : n = 0 := by simpa using h
            rw [lowD_zero]; simp
  | succ k ih =>
    intro n h
    by_cases h0 : 0 < n
    · rw [lowD_pos h0]
      have := ih (n / 10) (by rw [Nat.pow_succ] at h; omega)
      simp; exact this
    · obtain rfl : n = 0 := by omega
      rw [lowD_zero]; simp
/-- the low k digits of a number, with noughts -/
def padD : Nat → Nat → List Nat
  | 0, _ => []
  | k + 1, n => n % 10 :: padD k (n / 10)
theorem padD_len (k n : Nat) : (padD k n).length = k := by
  induction k generalizing n with
  | zero => rfl
  | succ k ih => simp [padD, ih]
theorem padD_snoc (k n : Nat) : padD (k + 1) n = padD k n ++ [n / 10 ^ k % 10] := by
  induction k generalizing n with
  | zero => simp [padD]
  | succ k ih =>
    rw [padD, ih (n / 10)]
    show _ = (n % 10 :: padD k (n / 10)) ++ _
    rw [List.cons_append, Nat.div_div_eq_div_mul, Nat.pow_succ, Nat.mul_comm 10]
/-- a number's digits: its low k, then those of what is above -/
theorem lowD_split (k : Nat) : ∀ n, 10 ^ k ≤ n → lowD n = padD k n ++ lowD (n / 10 ^ k) := by
  induction k with
  | zero => intro n _; simp [padD]
  | succ k ih =>
    intro n h
    have hp : 0 < 10 ^ k := Nat.pow_pos (by omega)
    rw [Nat.pow_succ] at h
    have hn : 0 < n := by omega
    rw [lowD_pos hn, ih (n / 10) (by rw [Nat.le_div_iff_mul_le (by omega)]; exact h), padD, Nat.div_div_eq_div_mul, Nat.pow_succ, Nat.mul_comm 10]
    rfl
/-- of a short number: with noughts above -/
theorem padD_low (k : Nat) : ∀ n, n < 10 ^ k → padD k n = lowD n ++ List.replicate (k - (lowD n).length) 0 ∧ (lowD n).length ≤ k := by
  induction k with
  | zero =>
    intro n h
    obtain rfl : n = 0 := by simpa using h
    simp [padD, lowD_zero]
  | succ k ih =>
    intro n h
    have h2 : n / 10 < 10 ^ k := by rw [Nat.pow_succ] at h; omega
    obtain ⟨e, hl⟩ := ih (n / 10) h2
    by_cases h0 : 0 < n
    · rw [padD, e, lowD_pos h0]
      refine ⟨?_, by simpa using hl⟩
      simp
    · obtain rfl : n = 0 := by omega
      rw [padD, e]
      simp [lowD_zero, List.replicate_succ]
theorem padD_mod (k : Nat) : ∀ n, padD k (n % 10 ^ k) = padD k n := by
  induction k with
  | zero => intro n; rfl
  | succ k ih =>
    intro n
    rw [padD, padD]
    have e1 : n % 10 ^ (k + 1) % 10 = n % 10 := by
      rw [Nat.pow_succ, Nat.mul_comm]
      exact Nat.mod_mul_right_mod n 10 (10 ^ k)
    have e2 : n % 10 ^ (k + 1) / 10 = n / 10 % 10 ^ k := by
      rw [Nat.pow_succ, Nat.mul_comm]
      exact Nat.mod_mul_right_div_self n 10 (10 ^ k)
    rw [e1, e2, ih]
/-- a number nine digits at a time, low ones first -/
def pcs : Nat → List Nat
  | 0 => []
  | n + 1 => (n + 1) % 1000000000 :: pcs ((n + 1) / 1000000000)
decreasing_by omega
theorem pcs_zero : pcs 0 = [] := by rw [pcs]
theorem pcs_pos {n : Nat} (h : 0 < n) : pcs n = n % 1000000000 :: pcs (n / 1000000000) := by
  cases n with
  | zero => omega
  | succ n => rw [pcs]
theorem pcs_lt (n : Nat) : ∀ d ∈ pcs n, d < 1000000000 := by
  induction n using Nat.strongRecOn with
  | _ n ih =>
    intro d hd
    by_cases h : 0 < n
    · rw [pcs_pos h] at hd
      rcases List.mem_cons.1 hd with rfl | hd
      · omega
      · exact ih (n / 1000000000) (by omega) d hd
    · obtain rfl : n = 0 := by omega
      rw [pcs_zero] at hd; cases hd
theorem pcs_ne {n : Nat} (h : 0 < n) : pcs n ≠ [] := by rw [pcs_pos h]; simp
/-- the pieces' digits: the last without noughts above -/
def lowP : List Nat → List Nat
  | [] => []
  | [p] => lowD p
  | p :: q :: l => padD 9 p ++ lowP (q :: l)
theorem lowP_pcs (n : Nat) : lowP (pcs n) = lowD n := by
  induction n using Nat.strongRecOn with
  | _ n ih =>
    by_cases h : 0 < n
    · rw [pcs_pos h]
      by_cases h2 : 0 < n / 1000000000
      · have e := ih (n / 1000000000) (by omega)
        rw [pcs_pos h2] at e ⊢
        rw [lowP, e, lowD_split 9 n (by omega)]
        have := padD_mod 9 n
        rw [show (10 : Nat) ^ 9 = 1000000000 from rfl] at *
        rw [this]
      · have h3 : n / 1000000000 = 0 := by omega
        rw [h3, pcs_zero, lowP, Nat.mod_eq_of_lt (by omega)]
    · obtain rfl : n = 0 := by omega
      rw [pcs_zero, lowD_zero]; rfl
/-- the last piece of a number is not 0 -/
theorem pcs_last (n : Nat) : ∀ h : pcs n ≠ [], 0 < (pcs n).getLast h := by
  induction n using Nat.strongRecOn with
  | _ n ih =>
    intro h
    have hn : 0 < n := by
      rcases Nat.eq_zero_or_pos n with rfl | h'
      · exact absurd pcs_zero h
      · exact h'
    by_cases h2 : 0 < n / 1000000000
    · have h3 := ih (n / 1000000000) (by omega) (pcs_ne h2)
      have e : (pcs n).getLast h = (pcs (n / 1000000000)).getLast (pcs_ne h2) := by
        have : ∀ l (hl : l ≠ []), l = n % 1000000000 :: pcs (n / 1000000000) → l.getLast hl = (pcs (n / 1000000000)).getLast (pcs_ne h2) := by
          intro l hl el; subst el; exact List.getLast_cons (pcs_ne h2)
        exact this _ h (pcs_pos hn)
      rw [e]; exact h3
    · have e : (pcs n).getLast h = n % 1000000000 := by
        have : ∀ l (hl : l ≠ []), l = [n % 1000000000] → l.getLast hl = n % 1000000000 := by
          intro l hl el; subst el; rfl
        exact this _ h (by rw [pcs_pos hn, show n / 1000000000 = 0 by omega, pcs_zero])
      rw [e]
      have : n < 1000000000 := by omega
      rw [Nat.mod_eq_of_lt this]; exact hn
/-- digits as bytes, high one first -/
def asc (l : List Nat) : List UInt8 := l.reverse.map fun d => UInt8.ofNat (48 + d)
theorem asc_append (l m : List Nat) : asc (l ++ m) = asc m ++ asc l := by simp [asc]
theorem lowD_last (n : Nat) : ∀ h : lowD n ≠ [], 0 < (lowD n).getLast h := by
  induction n using Nat.strongRecOn with
  | _ n ih =>
    intro h
    have hn : 0 < n := by
      rcases Nat.eq_zero_or_pos n with rfl | h'
      · exact absurd lowD_zero h
      · exact h'
    by_cases h2 : 0 < n / 10
    · have h3 := ih (n / 10) (by omega) (lowD_ne h2)
      have e : (lowD n).getLast h = (lowD (n / 10)).getLast (lowD_ne h2) := by
        have : ∀ l (hl : l ≠ []), l = n % 10 :: lowD (n / 10) → l.getLast hl = (lowD (n / 10)).getLast (lowD_ne h2) := by
          intro l hl el; subst el; exact List.getLast_cons (lowD_ne h2)
        exact this _ h (lowD_pos hn)
      rw [e]; exact h3
    · have e : (lowD n).getLast h = n % 10 := by
        have : ∀ l (hl : l ≠ []), l = [n % 10] → l.getLast hl = n % 10 := by
          intro l hl el; subst el; rfl
        exact this _ h (by rw [lowD_pos hn, show n / 10 = 0 by omega, lowD_zero])
      rw [e]; omega
/-- a number's text -/
def natTxt (n : Nat) : List UInt8 := if n = 0 then [48] else asc (lowD n)
def intTxt (z : Int) : List UInt8 := (if z < 0 then [45] else []) ++ natTxt z.natAbs
/-- the highest piece, its noughts ahead struck -/
theorem asc_pad_top {p : Nat} (h0 : 0 < p) (h : p < 1000000000) : (asc (padD 9 p)).dropWhile (· == 48) = asc (lowD p) := by
  obtain ⟨e, _⟩ := padD_low 9 p h
  rw [e, asc_append]
  have hz : asc (List.replicate (9 - (lowD p).length) 0) = List.replicate (9 - (lowD p).length) 48 := by simp [asc]
  rw [hz]
  have hd : ∀ (n : Nat) (l : List UInt8), (List.replicate n 48 ++ l).dropWhile (· == 48) = l.dropWhile (· == 48) := by
    intro n l
    induction n with
    | zero => rfl
    | succ n ih => rw [List.replicate_succ, List.cons_append, List.dropWhile_cons]; simp [ih]
  rw [hd]
  have hne := lowD_ne h0
  have hl := lowD_last p hne
  have hlt := lowD_lt p _ (List.getLast_mem hne)
  have e2 : asc (lowD p) = UInt8.ofNat (48 + (lowD p).getLast hne) :: asc (lowD p).dropLast := by
    conv => lhs; rw [← List.dropLast_concat_getLast hne]
    rw [asc_append]; rfl
  have h3 : (UInt8.ofNat (48 + (lowD p).getLast hne) == 48) = false := by
    rw [beq_eq_false_iff_ne]
    intro h
    have := congrArg UInt8.toNat h
    rw [UInt8.toNat_ofNat'] at this
    have h48 : (48 : UInt8).toNat = 48 := rfl
    rw [h48] at this
    omega
  rw [e2, List.dropWhile_cons, if_neg]
  intro h
  have h4 : (UInt8.ofNat (48 + (lowD p).getLast hne) == 48) = true := h
  rw [h3] at h4; cases h4
/-- the pieces from the i-th on -/
theorem lowP_cons {p : Nat} {l : List Nat} (h : l ≠ []) : lowP (p :: l) = padD 9 p ++ lowP l := by
  cases l with
  | nil => exact absurd rfl h
  | cons q l => rfl
theorem asc_len (l : List Nat) : (asc l).length = l.length := by simp [asc]
end Go.Proofs.YtdllbdfchloijaaGreatDoor.Num

/- Rows of bytes of the call's own; the reference's Text. -/
namespace Go.Proofs.YtdllbdfchloijaaGreatDoor
open Num
open Go.ChangeShapes Go.WideShapes Go.ChangeAt Go.RowKit
set_option linter.unusedVariables false
set_option linter.unusedSimpArgs false
theorem info8 : (Tryz.prog.info? 5).map (fun i => (i.zero, i.size, i.bytes)) = some (some (.int .u8 0), 1, 1) := by kernel_rfl
theorem el8 : Elt Tryz.prog 100 5 1 1 := Elt.mk' Tryz.underlying100 info8 rfl (by decide) (by decide)
/-- bytes of the call's own -/
def Own8 (w0 wr : World) (v : Value) (L : List UInt8) : Prop := OwnE 5 1 w0 wr v L.length (Lib.byteCells L)
theorem Own8.below {w0 wr w' : World} {v : Value} {L : List UInt8} (h : Own8 w0 wr v L) (hb : Below wr.heap.size wr w') : Own8 w0 w' v L := OwnE.below h hb
theorem Own8.nil {w0 wr : World} (hb : Below w0.heap.size w0 wr) : Own8 w0 wr (.slice none 0 0) [] := OwnE.nil _ _ hb
theorem bcells_app (l m : List UInt8) : Lib.byteCells (l ++ m) = Lib.byteCells l ++ Lib.byteCells m := by simp [Lib.byteCells]
theorem bcells_one (l : List UInt8) : ∀ v ∈ Lib.byteCells l, v.oneCell' = true := by
  intro v hv; simp only [Lib.byteCells, List.mem_map] at hv; obtain ⟨x, _, rfl⟩ := hv; rfl
theorem bcells_get (l : List UInt8) (k : Nat) (h : k < l.length) : (Lib.byteCells l)[k]? = some (.int .u8 ((l.getD k 0).toNat : Nat)) := by simp [Lib.byteCells, h]
theorem Own8.ex {w0 wr : World} {v : Value} {L : List UInt8} (h : Own8 w0 wr v L) : (v = .slice none 0 0 ∧ L = []) ∨ ∃ g cap, v = .slice (some ⟨g, 0, none⟩) L.length cap ∧ w0.heap.size ≤ g ∧ L.length ≤ cap := by
  obtain ⟨⟨h0, h⟩, _⟩ := h
  rcases h with ⟨rfl, h1⟩ | ⟨g, cap, cur, rfl, hg, _, hc, _⟩
  · exact .inl ⟨rfl, List.length_eq_zero_iff.1 h1⟩
  · exact .inr ⟨g, cap, rfl, hg, hc⟩
theorem Own8.shape {w0 wr : World} {v : Value} {L : List UInt8} (h : Own8 w0 wr v L) : ∃ a c, v = .slice a L.length c := by
  rcases h.ex with ⟨rfl, rfl⟩ | ⟨g, cap, rfl, _⟩
  · exact ⟨none, 0, rfl⟩
  · exact ⟨_, _, rfl⟩
theorem Own8.cell {w0 wr : World} {g cap : Nat} {L : List UInt8} (h : Own8 w0 wr (.slice (some ⟨g, 0, none⟩) L.length cap) L) (k : Nat) (hk : k < L.length) : wr.cell? ⟨g, k, none⟩ = some (.int .u8 ((L.getD k 0).toNat : Nat)) := by
  rw [World.ownsRow.cellAt h.1 k (by omega), bcells_get L k hk]
theorem Own8.frozen {w0 wr : World} {g cap : Nat} {L : List UInt8} (h : Own8 w0 wr (.slice (some ⟨g, 0, none⟩) L.length cap) L) (k : Nat) : wr.frozen? ⟨g, k, none⟩ = false := World.ownsRow.frozenAt h.1 k
theorem Own8.set {w0 wr : World} {g cap : Nat} {L : List UInt8} (h : Own8 w0 wr (.slice (some ⟨g, 0, none⟩) L.length cap) L) (k : Nat) (x : UInt8) (hg : w0.heap.size ≤ g) : Own8 w0 (wr.setCell ⟨g, k, none⟩ (.int .u8 (x.toNat : Nat))) (.slice (some ⟨g, 0, none⟩) L.length cap) (L.set k x) := by
  obtain ⟨⟨hl, h1⟩, hB⟩ := h
  rcases h1 with ⟨h2, _⟩ | ⟨g', cap', cur, h2, hg', hh, hc, hm, hs, ht⟩
  · cases h2
  · cases h2
    refine ⟨⟨by simp [Lib.byteCells], .inr ⟨g, cap, cur.setIfInBounds k (.int .u8 (x.toNat : Nat)), by simp, hg', ?_, by simpa using hc, hm, by simpa using hs, ?_⟩⟩, bset hB (by exact hg) _⟩
    · unfold World.setCell
      simp only [Array.getElem?_modify, if_true]
      rw [hh]; rfl
    · rw [Array.toList_setIfInBounds, List.length_set, List.take_set, ht]
      simp [Lib.byteCells, List.map_set]
theorem Own8.str {w0 wr : World} {a : Option Addr} {c : Nat} {L : List UInt8} (h : Own8 w0 wr (.slice a L.length c) L) : (convert 100 9 (.slice a L.length c)).run Tryz.prog wr = .ok (.string ⟨L.toArray⟩) wr := by
  rcases h.ex with ⟨h1, h2⟩ | ⟨g, cap, h1, _⟩
  · subst h2
    cases h1
    exact run_convert_bytes_nil wr 100 5 Tryz.underlying100 Tryz.underlying5 0 0 9 Tryz.underlying9
  · cases h1
    refine run_convert_bytes_back wr 100 9 5 ⟨g, 0, none⟩ c L Tryz.underlying100 Tryz.underlying5 Tryz.underlying9 fun j hj => ?_
    have := h.cell j hj
    unfold Addr.add
    split
    · subst_vars; simpa [hj] using this
    · simpa [hj] using this
theorem app8 {ops : Array Oper} {rest : List Oper} {o : Oper} {a : Act} {Q : Exit → Act → World → Prop} {w0 wr : World} {v : Value} {L X : List UInt8} {t : TypeId} (hgd : o.guard = none) {s x : Operand}
    (ho : o.op = .call { callee := .builtin .append, args := #[s, x], argTypes := #[100, 100] }) (hO : Own8 w0 wr v L) (hs : a.eval s = v)
    {c : Nat} (hx : a.eval x = .slice (some ⟨wr.heap.size, 0, none⟩) X.length c) (hn : L.length + X.length ≤ 1099511627776)
    (h : ∀ v' w', Own8 w0 w' v' (L ++ X) → Lim wr w' → Out (fun k => v.ownBlock = some k) wr w' → wpList Tryz.prog ops Q rest (a.put o.dst v') w') : wpList Tryz.prog ops Q (o :: rest) a (wr.alloc (.cells (Lib.byteCells X).toArray t)) := by
  obtain ⟨i, z, hi, hz, hsize, hby, hzs⟩ := el8.info
  refine wpList_append_own _ hgd s x 100 ho w0.heap.size 5 i z 1 1 el8.ht hi hz hsize hby hzs el8.pos v L.length (Lib.byteCells L) hs (hO.1.alloc _) ⟨wr.heap.size, 0, none⟩ X.length c (Lib.byteCells X) hx (by rw [Lib.byteCells_length, Nat.mul_one]) (cells_new wr _ t) (bcells_one X) (by unfold maxLen; omega) (by omega) (by have := hO.2.size; simp; omega) ?_
  intro v' w' hown hg _
  have hl : Lim wr w' := ((Lim.refl wr).alloc _).grown hg fun g hg' ht => (by decide : 5 ≠ 106) (by
    rw [typ_keep (own_typ hO hg') (bal (Below.refl _ _) _)] at ht
    exact Option.some.inj ht)
  exact h v' w' ⟨by rw [bcells_app, List.length_append]; exact hown, below_append (wr := wr) (bal hO.2 _) (hO.1.alloc _) hg⟩ hl (((Out.refl _ wr).alloc _).grown hg fun k hk _ => hk)
namespace Num
def dig (d : Nat) : UInt8 := UInt8.ofNat (48 + d)
theorem dig_nat {d : Nat} (h : d < 10) : (dig d).toNat = 48 + d := by
  unfold dig; rw [UInt8.toNat_ofNat']; omega
theorem asc_eq (l : List Nat) : asc l = (l.map dig).reverse := by unfold asc; rw [← List.map_reverse]; rfl
/-- turned about so far -/
def turned (T : List UInt8) (i : Nat) : List UInt8 := (List.range T.length).map fun j => if j < i ∨ T.length - 1 - j < i then T.getD (T.length - 1 - j) 0 else T.getD j 0
theorem turned_len (T : List UInt8) (i : Nat) : (turned T i).length = T.length := by simp [turned]
theorem turned_get (T : List UInt8) (i j : Nat) (h : j < T.length) : (turned T i).getD j 0 = if j < i ∨ T.length - 1 - j < i then T.getD (T.length - 1 - j) 0 else T.getD j 0 := by
  simp [turned, h]
theorem turned_zero (T : List UInt8) : turned T 0 = T := by
  apply List.ext_getElem
  · simp [turned]
  · intro j h1 h2
    simp [turned, h2]
theorem turned_step {T : List UInt8} {i : Nat} (h : i < T.length / 2) : ((turned T i).set i ((turned T i).getD (T.length - 1 - i) 0)).set (T.length - 1 - i) ((turned T i).getD i 0) = turned T (i + 1) := by
  have e1 : (turned T i).getD i 0 = T.getD i 0 := by rw [turned_get T i i (by omega), if_neg (by omega)]
  have e2 : (turned T i).getD (T.length - 1 - i) 0 = T.getD (T.length - 1 - i) 0 := by rw [turned_get T i _ (by omega), if_neg (by omega)]
  rw [e1, e2]
  apply List.ext_getElem
  · simp [turned]
  · intro j h1 h2
    have hj : j < T.length := by simpa [turned] using h2
    rw [List.getElem_set, List.getElem_set]
    simp only [turned, List.getElem_map, List.getElem_range]
    by_cases h3 : T.length - 1 - i = j
    · rw [if_pos h3, if_pos (by omega)]; congr 1; omega
    · rw [if_neg h3]
      by_cases h4 : i = j
      · rw [if_pos h4, if_pos (by omega), h4]
      · rw [if_neg h4]
        by_cases h5 : j < i ∨ T.length - 1 - j < i
        · rw [if_pos h5, if_pos (by omega)]
        · rw [if_neg h5, if_neg (by omega)]
theorem turned_end (T : List UInt8) {i : Nat} (h : T.length / 2 ≤ i) : turned T i = T.reverse := by
  apply List.ext_getElem
  · simp [turned]
  · intro j h1 h2
    have hj : j < T.length := by simpa [turned] using h1
    simp only [turned, List.getElem_map, List.getElem_range, List.getElem_reverse]
    by_cases h5 : j < i ∨ T.length - 1 - j < i
    · rw [if_pos h5]; simp [show T.length - 1 - j < T.length by omega]
    · rw [if_neg h5]
      have e : T.length - 1 - j = j := by omega
      simp only [e]; simp [hj]
theorem intTxt_zero : intTxt 0 = [48] := by simp [intTxt, natTxt]
theorem intTxt_sg {neg : Bool} {V : Nat} (hV : 0 < V) : intTxt (sg neg V) = ((lowD V).map dig ++ (if neg then [45] else [])).reverse := by
  unfold intTxt natTxt
  rw [sg_abs, if_neg (by omega : ¬ V = 0), asc_eq]
  cases neg with
  | true => rw [if_pos (by simp [sg]; omega)]; simp
  | false => rw [if_neg (by simp [sg])]; simp
end Num


set_option maxRecDepth 100000 in
set_option maxHeartbeats 8000000 in
theorem rtext_c (vx : Value) (x : Int) (k : Nat) (w : World) (hx : IsRef w vx x) (bx : Bd k x) (hk : k ≤ 1073741824) :
    Calls Tryz.prog 19 #[vx] w fun e w' => e = .returned (.string ⟨(intTxt x).toArray⟩) ∧ Below w.heap.size w w' := by
  obtain ⟨n1, a1, c1, l1, rfl, u1, q1, g1, s1, rfl⟩ := hx
  have k1 : l1.length ≤ 67108865 := by
    by_cases h0 : l1 = []
    · subst h0; simp
    · have h1 := NumR.nrm_val_pos g1 h0
      rw [NumR.BB_pow] at h1
      have h2 : 16 * (l1.length - 1) < k := (Nat.pow_lt_pow_iff_right (a := 2) (by omega)).1 (Nat.lt_of_le_of_lt h1 (rsg_bd bx))
      omega
  have HX := Lib.hid (And.intro s1 bx)
  have HPL := Lib.hid (show (lowD (NumR.val l1)).length ≤ 1073741824 from Nat.le_trans (lowD_len k _ (rsg_bd bx)) hk)
  clear bx s1
  unfold iv
  have hB := Below.refl w.heap.size w
  go_enter Tryz.func19, Tryz.ntmps19
  go_wp2
  refine wp_name fun w0 hW0 => ?_
  have x0 : w0.cell? ⟨w.heap.size, 0, none⟩ = some (.bool n1) := by rw [hW0]; exact (by first | assumption | exact cell_new (by with_reducible first | rfl | (simp; done) | (simp; omega)) rfl | (repeat (first | assumption | exact cell_new (by with_reducible first | rfl | (simp; done) | (simp; omega)) rfl | refine cell_alloc ?_ _ | refine cell_drew ?_ | refine cell_drewN ?_ _ | refine cell_far ?_ (by simp) _ | (refine cell_far ?_ (by simp <;> omega) _))) | simp [go_sem, *])
  have zx0 := cell_lt x0
  have x1 : w0.cell? ⟨w.heap.size, 1, none⟩ = some (.slice a1 l1.length c1) := by rw [hW0]; exact (by first | assumption | exact cell_new (by with_reducible first | rfl | (simp; done) | (simp; omega)) rfl | (repeat (first | assumption | exact cell_new (by with_reducible first | rfl | (simp; done) | (simp; omega)) rfl | refine cell_alloc ?_ _ | refine cell_drew ?_ | refine cell_drewN ?_ _ | refine cell_far ?_ (by simp) _ | (refine cell_far ?_ (by simp <;> omega) _))) | simp [go_sem, *])
  have hB : Below w.heap.size w w0 := by rw [hW0]; repeat (first | exact Below.refl _ _ | exact hB | refine Below.drew ?_ | refine below_drewN ?_ _ | refine bset ?_ (by simp <;> omega) _ | refine bal ?_ _)
  have hz : w.heap.size ≤ w0.heap.size := hB.size
  clear hW0
  have hu0 := u1.keep hB
  go_loopg [3, 4] (NumR.val l1) (fun gk d v wr => ∃ (P : List Nat) (ad : Option Addr) (cd : Nat) (L : List Nat), v = .slice ad L.length cd ∧ U32 wr ad cd L ∧ NumR.Limbs L ∧ Nrm L ∧ L.length ≤ 67108865 ∧ gk = NumR.val L ∧ Own8 w0 wr d (P.map dig) ∧ lowD (NumR.val l1) = P ++ lowD (NumR.val L))
  case atStart => exact ⟨[], a1, c1, l1, rfl, hu0, q1, g1, k1, rfl, Own8.nil (Below.refl _ _), rfl⟩
  case round =>
    obtain ⟨P, ad, cd, L, rfl, hu, hl, hn, hlm, hgk, hO, hP⟩ := hrel
    have HP := Lib.hid (And.intro hgk hP)
    clear hgk hP
    have hPl : P.length ≤ 1073741824 := by have h1 := congrArg List.length HP.out.2; have h2 := HPL.out; rw [h1, List.length_append] at h2; omega
    have hPm : (P.map dig).length ≤ 1073741824 := by simpa using hPl
    by_cases hL : 0 < L.length
    · have hLz : (0 : Int) < (L.length : Int) := by omega
      have hv0 : 0 < NumR.val L := by
        have h1 := NumR.nrm_val_pos hn (List.length_pos_iff.1 hL)
        have : 0 < NumR.BB ^ (L.length - 1) := Nat.pow_pos NumR.BB_pos
        omega
      have dc := fun (g : Nat) (W : World) (h : Below wr.heap.size wr W) (hg : g = W.heap.size) => rdivide_c ad (some ⟨g, 0, none⟩) cd 1 L [10] (W.alloc (.cells (cel [10]).toArray 106)) (hu.keep (bal h _)) ((blk_at hg).u32 (fun x hx => by simp at hx; subst hx; unfold BB; omega) (by simp [maxLen])) hl (fun x hx => by simp at hx; subst hx; unfold NumR.BB; omega) hn (fun _ => by simp) (by simp [NumR.val]) (by omega) (by simp)
      rw [show NumR.val [10] = 10 by simp [NumR.val]] at dc
      simp only [List.length_cons, List.length_nil, Nat.zero_add] at dc
      go_wp2_with fail
      refine (dc _ _ (Below.refl _ _) rfl).mono ?_
      rintro e w2 ⟨⟨u, v, rfl, hq, hr⟩, hb2⟩
      have hO2 := hO.below (bthen (bal (Below.refl _ _) _) hb2)
      clear dc hO hu
      obtain ⟨aq, cq, Lq, rfl, hqu, hql, hqn, hqv⟩ := hq
      obtain ⟨ar, cr, Lr, rfl, hru, hrl, hrn, hrv⟩ := hr
      have hLqm : Lq.length ≤ 67108865 := by
        apply Nat.le_trans _ hlm
        apply Nat.le_of_not_lt; intro h
        have := NumR.val_lt_of_len hl hqn h
        omega
      have HV := Lib.hid (And.intro hqv hrv)
      have HN := Lib.hid (show lowD (NumR.val L) = NumR.val L % 10 :: lowD (NumR.val L / 10) from lowD_pos hv0)
      have HLT := Lib.hid (show NumR.val L / 10 < NumR.val L by omega)
      clear hqv
      by_cases hc : NumR.val L % 10 = 0
      · obtain rfl : Lr = [] := (NumR.val_nil_iff hrn).1 (by rw [hrv]; exact hc)
        have HC := Lib.hid hc
        clear hc hrv
        go_wp2_with (at_builtin; refine app8 (X := [48]) rfl rfl hO2 rfl rfl ?_ ?_; (simp; omega); intro v' w3 hO3 hlim3 _)
        go_roundg (NumR.val L / 10)
        case measure => rw [HP.out.1]; exact HLT.out
        case rel => exact ⟨P ++ [0], aq, cq, Lq, rfl, hqu.lim hlim3, hql, hqn, hLqm, HV.out.1.symm, by simpa [show dig 0 = 48 from rfl] using hO3, by rw [HV.out.1, HP.out.2, HN.out, HC.out]; simp⟩
      · obtain ⟨c, rfl⟩ : ∃ c, Lr = [c] := by
          apply List.length_eq_one_iff.1
          have h1 : Lr ≠ [] := by intro e; subst e; apply hc; rw [← hrv]; rfl
          have h2 := NumR.nrm_val_pos hrn h1
          have h3 := List.length_pos_iff.2 h1
          have h4 : Lr.length - 1 = 0 := by
            apply Nat.eq_zero_of_not_pos; intro h
            have h5 : NumR.BB ^ 1 ≤ NumR.BB ^ (Lr.length - 1) := Nat.pow_le_pow_right NumR.BB_pos h
            have h6 : NumR.val L % 10 < 10 := Nat.mod_lt _ (by omega)
            unfold NumR.BB at *
            omega
          omega
        have hce : c = NumR.val L % 10 := by rw [← hrv]; simp [NumR.val]
        rcases hru.2.2.2 with h0 | ⟨br, or', rfl, hcr⟩
        · cases h0
        have c0 := hcr 0 (by simp)
        simp only [List.getD_cons_zero, Nat.add_zero] at c0
        have hc10' : c < 10 := by omega
        have HC := Lib.hid hce
        clear hc hce hrv hcr hru
        -- the digit c is put on
        have hc10 : c < 10 := by omega
        obtain ⟨bb, hbb⟩ : ∃ bb, bb = dig (c) := ⟨_, rfl⟩
        have hb1 : (48 : Int) + ((c : Nat) : Int) = (bb.toNat : Int) := by rw [hbb, dig_nat hc10]; omega
        have hb2 : (bb.toNat : Int) % 256 = (bb.toNat : Int) := by have := bb.toNat_lt; omega
        have hb3 : IntKind.u32.wrap (bb.toNat : Int) = (bb.toNat : Int) := w32 (by have := bb.toNat_lt; unfold BB; omega)
        have HBB := Lib.hid hbb
        clear hbb
        go_wp2_with (at_builtin; refine app8 (X := [bb]) rfl rfl hO2 rfl rfl ?_ ?_; (simp; omega); intro v' w3 hO3 hlim3 _)
        go_roundg (NumR.val L / 10)
        case measure => rw [HP.out.1]; exact HLT.out
        case rel => exact ⟨P ++ [c], aq, cq, Lq, rfl, hqu.lim hlim3, hql, hqn, hLqm, HV.out.1.symm, by rw [HBB.out] at hO3; simpa using hO3, by rw [HV.out.1, HP.out.2, HN.out, HC.out]; simp⟩
    · obtain rfl : L = [] := List.length_eq_zero_iff.1 (by omega)
      have hPN := HP.out.2
      rw [show NumR.val [] = 0 from rfl, lowD_zero, List.append_nil] at hPN
      have x0w := x0
      have hB2 := bthen hB hO.2
      have y0 := bkeep hO.2 x0
      by_cases hP0 : P = []
      · subst hP0
        have hN0 : NumR.val l1 = 0 := by
          apply Nat.eq_zero_of_not_pos; intro h
          exact lowD_ne h hPN
        have HE := Lib.hid (show intTxt (sg n1 (NumR.val l1)) = [48] by rw [hN0]; cases n1 <;> simp [sg, intTxt_zero])
        obtain ⟨a9, c9, rfl⟩ := hO.shape
        clear hPN hN0 hu hO
        simp only [List.map_nil, List.length_nil]
        go_wp2
        go_ret
        exact ⟨by rw [HE.out]; rfl, hB2⟩
      · have hN0 : 0 < NumR.val l1 := by
          apply Nat.pos_of_ne_zero; intro h
          rw [h, lowD_zero] at hPN
          exact hP0 hPN.symm
        have HE := Lib.hid (show intTxt (sg n1 (NumR.val l1)) = (P.map dig ++ (if n1 then [45] else [])).reverse by rw [intTxt_sg hN0, hPN])
        have hPz : (((P.map dig).length : Int) == 0) = false := by rw [beq_eq_false_iff_ne]; simp; exact hP0
        obtain ⟨a8, c8, rfl⟩ := hO.shape
        clear hPN hN0 hu hP0
        cases n1 with
        | true =>
          simp only [if_true] at HE
          generalize P.map dig = S at *
          go_wp2_with (at_builtin; refine app8 (X := [45]) rfl rfl hO rfl rfl ?_ ?_; (simp; omega); intro v' w3 hO3 _ _; (obtain ⟨a8, c8, rfl⟩ := hO3.shape); (have hTm : (S ++ [45]).length ≤ 1073741825 := by simp; omega); clear hO; generalize S ++ [45] = T at *)
          go_loopw [8] (fun x wi => ∃ i : Nat, i ≤ T.length / 2 ∧ x = .int .i64 i ∧ Own8 w0 wi (.slice a8 T.length c8) (turned T i)) (fun x _ => T.length / 2 - (intOf x).toNat)
          case atStart => exact ⟨0, Nat.zero_le _, rfl, by rw [turned_zero]; exact hO3⟩
          case round =>
            rename World => wi
            obtain ⟨i, hi, rfl, hOi⟩ := hrel
            have hlen := turned_len T i
            by_cases hlt : i < T.length / 2
            · have hltz : (i : Int) < (T.length : Int) / 2 := by omega
              have hltz2 : (i : Int) < (T.length : Int).tdiv 2 := by rw [Int.tdiv_eq_ediv_of_nonneg (by omega)]; exact hltz
              have hOi' := hOi
              rw [← hlen] at hOi'
              rcases hOi'.ex with ⟨h0, hT⟩ | ⟨g, cap, hv, hg, hcap⟩
              · exfalso; rw [hT] at hlen; simp at hlen; omega
              cases hv
              obtain ⟨j, hj⟩ : ∃ j, j = T.length - 1 - i := ⟨_, rfl⟩
              have q0 := hOi'.cell i (by omega)
              have q1 := hOi'.cell j (by omega)
              have qf := hOi'.frozen i
              have qg := hOi'.frozen j
              have HS := Lib.hid (turned_step hlt)
              rw [← hj] at HS
              have hO4 := hOi'.set i ((turned T i).getD j 0) hg
              have hO5 := (show Own8 w0 _ (.slice (some ⟨g, 0, none⟩) ((turned T i).set i ((turned T i).getD j 0)).length c8) _ by rw [List.length_set]; exact hO4).set j ((turned T i).getD i 0) hg
              rw [HS.out, List.length_set, hlen] at hO5
              have HO5 := Lib.hid hO5
              have g1 : (T.length : Int) - 1 - (i : Int) = (j : Int) := by omega
              have g2 : IntKind.i64.wrap ((T.length : Int) - 1) = (T.length : Int) - 1 := by rw [IntKind.wrap_i64]; omega
              have g3 : IntKind.i64.wrap ((T.length : Int) - 1 - (i : Int)) = (j : Int) := by rw [IntKind.wrap_i64]; omega
              have hji : i ≠ j := by omega
              have hij : j ≠ i := by omega
              have hiT : (i : Int) < (T.length : Int) := by omega
              have hjT : (j : Int) < (T.length : Int) := by omega
              clear hO4 hO5 hOi hOi' hlen hj
              generalize (turned T i).getD j 0 = bj at *
              generalize (turned T i).getD i 0 = bi at *
              go_wp2
              go_region
              all_goals
                go_wp2
                refine ⟨⟨i + 1, by omega, by go_num, ?_⟩, by simp [intOf] <;> omega⟩
                exact ⟨HO5.out.1, HO5.out.2.drew⟩
            · have HO := Lib.hid (show Own8 w0 wi (.slice a8 T.length c8) T.reverse by rw [← turned_end T (i := i) (Nat.le_of_not_lt hlt)]; exact hOi)
              have hcv := (show Own8 w0 wi (.slice a8 T.reverse.length c8) T.reverse by rw [List.length_reverse]; exact HO.out).str
              rw [List.length_reverse, ← HE.out] at hcv
              have hB9 := bthen hB HO.out.2
              have hltz : ¬ (i : Int) < (T.length : Int) / 2 := by omega
              have hltz2 : ¬ (i : Int) < (T.length : Int).tdiv 2 := by rw [Int.tdiv_eq_ediv_of_nonneg (by omega)]; exact hltz
              clear hOi hlen
              go_wp2
              go_ret
              exact ⟨rfl, hB9⟩
        | false =>
          simp only [Bool.false_eq_true, if_false, List.append_nil] at HE
          generalize P.map dig = T at *
          have hTm : T.length ≤ 1073741825 := by omega
          have hO3 := hO
          clear hO
          go_wp2
          go_loopw [8] (fun x wi => ∃ i : Nat, i ≤ T.length / 2 ∧ x = .int .i64 i ∧ Own8 w0 wi (.slice a8 T.length c8) (turned T i)) (fun x _ => T.length / 2 - (intOf x).toNat)
          case atStart => exact ⟨0, Nat.zero_le _, rfl, by rw [turned_zero]; exact hO3⟩
          case round =>
            rename World => wi
            obtain ⟨i, hi, rfl, hOi⟩ := hrel
            have hlen := turned_len T i
            by_cases hlt : i < T.length / 2
            · have hltz : (i : Int) < (T.length : Int) / 2 := by omega
              have hltz2 : (i : Int) < (T.length : Int).tdiv 2 := by rw [Int.tdiv_eq_ediv_of_nonneg (by omega)]; exact hltz
              have hOi' := hOi
              rw [← hlen] at hOi'
              rcases hOi'.ex with ⟨h0, hT⟩ | ⟨g, cap, hv, hg, hcap⟩
              · exfalso; rw [hT] at hlen; simp at hlen; omega
              cases hv
              obtain ⟨j, hj⟩ : ∃ j, j = T.length - 1 - i := ⟨_, rfl⟩
              have q0 := hOi'.cell i (by omega)
              have q1 := hOi'.cell j (by omega)
              have qf := hOi'.frozen i
              have qg := hOi'.frozen j
              have HS := Lib.hid (turned_step hlt)
              rw [← hj] at HS
              have hO4 := hOi'.set i ((turned T i).getD j 0) hg
              have hO5 := (show Own8 w0 _ (.slice (some ⟨g, 0, none⟩) ((turned T i).set i ((turned T i).getD j 0)).length c8) _ by rw [List.length_set]; exact hO4).set j ((turned T i).getD i 0) hg
              rw [HS.out, List.length_set, hlen] at hO5
              have HO5 := Lib.hid hO5
              have g1 : (T.length : Int) - 1 - (i : Int) = (j : Int) := by omega
              have g2 : IntKind.i64.wrap ((T.length : Int) - 1) = (T.length : Int) - 1 := by rw [IntKind.wrap_i64]; omega
              have g3 : IntKind.i64.wrap ((T.length : Int) - 1 - (i : Int)) = (j : Int) := by rw [IntKind.wrap_i64]; omega
              have hji : i ≠ j := by omega
              have hij : j ≠ i := by omega
              have hiT : (i : Int) < (T.length : Int) := by omega
              have hjT : (j : Int) < (T.length : Int) := by omega
              clear hO4 hO5 hOi hOi' hlen hj
              generalize (turned T i).getD j 0 = bj at *
              generalize (turned T i).getD i 0 = bi at *
              go_wp2
              go_region
              all_goals
                go_wp2
                refine ⟨⟨i + 1, by omega, by go_num, ?_⟩, by simp [intOf] <;> omega⟩
                exact ⟨HO5.out.1, HO5.out.2.drew⟩
            · have HO := Lib.hid (show Own8 w0 wi (.slice a8 T.length c8) T.reverse by rw [← turned_end T (i := i) (Nat.le_of_not_lt hlt)]; exact hOi)
              have hcv := (show Own8 w0 wi (.slice a8 T.reverse.length c8) T.reverse by rw [List.length_reverse]; exact HO.out).str
              rw [List.length_reverse, ← HE.out] at hcv
              have hB9 := bthen hB HO.out.2
              have hltz : ¬ (i : Int) < (T.length : Int) / 2 := by omega
              have hltz2 : ¬ (i : Int) < (T.length : Int).tdiv 2 := by rw [Int.tdiv_eq_ediv_of_nonneg (by omega)]; exact hltz
              clear hOi hlen
              go_wp2
              go_ret
              exact ⟨rfl, hB9⟩
end Go.Proofs.YtdllbdfchloijaaGreatDoor

/- The reference's numbers: Pow. -/
namespace Go.Proofs.YtdllbdfchloijaaGreatDoor
open Num
open Go.ChangeShapes Go.WideShapes Go.ChangeAt Go.RowKit
set_option linter.unusedVariables false
set_option linter.unusedSimpArgs false

set_option maxRecDepth 100000 in
set_option maxHeartbeats 2000000 in
theorem rpow_c (vx : Value) (x : Int) (k n : Nat) (w : World) (hx : IsRef w vx x) (bx : Bd k x) (hk : n * k + 1 ≤ 17179869184) (hk2 : k ≤ 17179869184) (hn : n ≤ 9223372036854775807) :
    Calls Tryz.prog 76 #[vx, .int .i64 (n : Int)] w fun e w' => (∃ v, e = .returned v ∧ IsRef w' v (x ^ n)) ∧ Below w.heap.size w w' := by
  have oc := fun w => rof_c 1 w (by omega) (by omega)
  have mc := fun vx vy j w h1 h2 hj => rmul_c vx vy (x ^ j) x (j * k + 1) k w h1 h2 (bx.pow j) bx hj hk2
  have hq : ∀ j : Nat, j ≤ n → j * k + 1 ≤ 17179869184 := fun j hj => by
    have := Nat.mul_le_mul_right k hj
    omega
  have HX := Lib.hid hx
  obtain ⟨n1, a1, c1, l1, rfl, -⟩ := hx
  unfold iv at *
  clear bx hk
  have hB0 := Below.refl w.heap.size w
  go_enter Tryz.func76, Tryz.ntmps76
  go_wp2_with fail
  refine (oc _).mono ?_
  rintro e w3 ⟨⟨v3, rfl, hi3⟩, hb3⟩
  have x0 : w3.cell? ⟨w.heap.size, 0, none⟩ = some (.bool n1) := bkc hb3
  have zx0 := cell_lt x0
  have x1 : w3.cell? ⟨w.heap.size, 1, none⟩ = some (.slice a1 l1.length c1) := bkc hb3
  have r0 : w3.cell? ⟨w.heap.size + 1, 0, none⟩ = some (.bool false) := bkc hb3
  have zr0 := cell_lt r0
  have r0f : w3.frozen? ⟨w.heap.size + 1, 0, none⟩ = false := bkcf (v := .bool false) hb3
  have r1 : w3.cell? ⟨w.heap.size + 1, 1, none⟩ = some (.slice none 0 0) := bkc hb3
  have r1f : w3.frozen? ⟨w.heap.size + 1, 1, none⟩ = false := bkcf (v := .slice none 0 0) hb3
  have hB : Below w.heap.size w w3 := bthen (by repeat (first | exact Below.refl _ _ | exact hB | refine Below.drew ?_ | refine below_drewN ?_ _ | refine bset ?_ (by simp <;> omega) _ | refine bal ?_ _)) hb3
  have hz : w.heap.size ≤ w3.heap.size := hB.size
  have HI3 := Lib.hid hi3
  have HX3 := Lib.hid (HX.out.keep hB)
  obtain ⟨n3, a3, c3, l3, rfl, -⟩ := hi3
  unfold iv at *
  clear oc
  go_wp2
  refine wp_name fun w4 hW4 => ?_
  have x0 : w4.cell? ⟨w.heap.size, 0, none⟩ = some (.bool n1) := by rw [hW4]; exact (by first | assumption | exact cell_new (by with_reducible first | rfl | (simp; done) | (simp; omega)) rfl | (repeat (first | assumption | exact cell_new (by with_reducible first | rfl | (simp; done) | (simp; omega)) rfl | refine cell_alloc ?_ _ | refine cell_drew ?_ | refine cell_drewN ?_ _ | refine cell_far ?_ (by simp) _ | (refine cell_far ?_ (by simp <;> omega) _))) | simp [go_sem, *])
  have zx0 := cell_lt x0
  have x1 : w4.cell? ⟨w.heap.size, 1, none⟩ = some (.slice a1 l1.length c1) := by rw [hW4]; exact (by first | assumption | exact cell_new (by with_reducible first | rfl | (simp; done) | (simp; omega)) rfl | (repeat (first | assumption | exact cell_new (by with_reducible first | rfl | (simp; done) | (simp; omega)) rfl | refine cell_alloc ?_ _ | refine cell_drew ?_ | refine cell_drewN ?_ _ | refine cell_far ?_ (by simp) _ | (refine cell_far ?_ (by simp <;> omega) _))) | simp [go_sem, *])
  have r0f : w4.frozen? ⟨w.heap.size + 1, 0, none⟩ = false := by rw [hW4]; simp [go_sem, *]
  have r0 : w4.cell? ⟨w.heap.size + 1, 0, none⟩ = some (.bool false) := by rw [hW4]; exact (by first | assumption | exact cell_new (by with_reducible first | rfl | (simp; done) | (simp; omega)) rfl | (repeat (first | assumption | exact cell_new (by with_reducible first | rfl | (simp; done) | (simp; omega)) rfl | refine cell_alloc ?_ _ | refine cell_drew ?_ | refine cell_drewN ?_ _ | refine cell_far ?_ (by simp) _ | (refine cell_far ?_ (by simp <;> omega) _))) | simp [go_sem, *])
  have zr0 := cell_lt r0
  have r1f : w4.frozen? ⟨w.heap.size + 1, 1, none⟩ = false := by rw [hW4]; simp [go_sem, *]
  have r1 : w4.cell? ⟨w.heap.size + 1, 1, none⟩ = some (.slice none 0 0) := by rw [hW4]; exact (by first | assumption | exact cell_new (by with_reducible first | rfl | (simp; done) | (simp; omega)) rfl | (repeat (first | assumption | exact cell_new (by with_reducible first | rfl | (simp; done) | (simp; omega)) rfl | refine cell_alloc ?_ _ | refine cell_drew ?_ | refine cell_drewN ?_ _ | refine cell_far ?_ (by simp) _ | (refine cell_far ?_ (by simp <;> omega) _))) | simp [go_sem, *])
  have o0f : w4.frozen? ⟨w3.heap.size, 0, none⟩ = false := by rw [hW4]; simp [go_sem, *]
  have o0 : w4.cell? ⟨w3.heap.size, 0, none⟩ = some (.bool n3) := by rw [hW4]; exact (by first | assumption | exact cell_new (by with_reducible first | rfl | (simp; done) | (simp; omega)) rfl | (repeat (first | assumption | exact cell_new (by with_reducible first | rfl | (simp; done) | (simp; omega)) rfl | refine cell_alloc ?_ _ | refine cell_drew ?_ | refine cell_drewN ?_ _ | refine cell_far ?_ (by simp) _ | (refine cell_far ?_ (by simp <;> omega) _))) | simp [go_sem, *])
  have zo0 := cell_lt o0
  have o1f : w4.frozen? ⟨w3.heap.size, 1, none⟩ = false := by rw [hW4]; simp [go_sem, *]
  have o1 : w4.cell? ⟨w3.heap.size, 1, none⟩ = some (.slice a3 l3.length c3) := by rw [hW4]; exact (by first | assumption | exact cell_new (by with_reducible first | rfl | (simp; done) | (simp; omega)) rfl | (repeat (first | assumption | exact cell_new (by with_reducible first | rfl | (simp; done) | (simp; omega)) rfl | refine cell_alloc ?_ _ | refine cell_drew ?_ | refine cell_drewN ?_ _ | refine cell_far ?_ (by simp) _ | (refine cell_far ?_ (by simp <;> omega) _))) | simp [go_sem, *])
  have hB : Below w.heap.size w w4 := by rw [hW4]; repeat (first | exact Below.refl _ _ | exact hB | refine Below.drew ?_ | refine below_drewN ?_ _ | refine bset ?_ (by simp <;> omega) _ | refine bal ?_ _)
  have HI4 := Lib.hid (show IsRef w4 (.agg #[.bool n3, .slice a3 l3.length c3]) 1 by rw [hW4]; exact HI3.out.keep (bal (Below.refl _ _) _))
  have hz : w.heap.size ≤ w4.heap.size := hB.size
  clear hW4
  have hg : w.heap.size + 1 < w3.heap.size := by omega
  clear HI3 hb3
  generalize w3.heap.size = g at *
  have o0' := o0
  have o1' := o1
  have o0f' := o0f
  have o1f' := o1f
  clear o0 o1 o0f o1f
  have HF := Lib.hid (And.intro x0 (And.intro x1 (And.intro r0 (And.intro r0f (And.intro r1 (r1f))))))
  clear x0 x1 r0 r0f r1 r1f
  have HX4 := Lib.hid (HX.out.keep hB)
  go_loopw [6] (fun y wr => ∃ (j : Nat) (n6 : Bool) (a6 : Option Addr) (k6 c6 : Nat), j ≤ n ∧ y = .int .i64 j ∧ IsRef wr (.agg #[.bool n6, .slice a6 k6 c6]) (x ^ j) ∧ wr.cell? ⟨g, 0, none⟩ = some (.bool n6) ∧ wr.cell? ⟨g, 1, none⟩ = some (.slice a6 k6 c6) ∧ wr.frozen? ⟨g, 0, none⟩ = false ∧ wr.frozen? ⟨g, 1, none⟩ = false ∧ Out (· = g) w4 wr ∧ IsRef wr (.agg #[.bool n1, .slice a1 l1.length c1]) x) (fun y _ => n - (intOf y).toNat)
  case atStart => exact ⟨0, n3, a3, _, c3, Nat.zero_le _, rfl, by simpa using HI4.out, o0', o1', o0f', o1f', Out.refl _ _, HX4.out⟩
  case round =>
    obtain ⟨j, n6, a6, k6, c6, hj, rfl, hi6, o0, o1, o0f, o1f, hOut, hx6⟩ := hrel
    clear o0' o1' o0f' o1f'
    have HI6 := Lib.hid hi6
    have HX6 := Lib.hid hx6
    clear hi6 hx6
    obtain ⟨x0, x1, r0, r0f, r1, r1f⟩ := HF.out
    replace x0 := okeep hOut x0 (fun h => by first | (have h2 : _ = _ := h; omega) | (rcases (show _ ∨ _ from h) with h | h <;> omega) | (rcases (show _ ∨ _ ∨ _ from h) with h | h | h <;> omega))
    replace x1 := okeep hOut x1 (fun h => by first | (have h2 : _ = _ := h; omega) | (rcases (show _ ∨ _ from h) with h | h <;> omega) | (rcases (show _ ∨ _ ∨ _ from h) with h | h | h <;> omega))
    replace r0f := okeepf hOut r0 r0f (fun h => by first | (have h2 : _ = _ := h; omega) | (rcases (show _ ∨ _ from h) with h | h <;> omega) | (rcases (show _ ∨ _ ∨ _ from h) with h | h | h <;> omega))
    replace r0 := okeep hOut r0 (fun h => by first | (have h2 : _ = _ := h; omega) | (rcases (show _ ∨ _ from h) with h | h <;> omega) | (rcases (show _ ∨ _ ∨ _ from h) with h | h | h <;> omega))
    replace r1f := okeepf hOut r1 r1f (fun h => by first | (have h2 : _ = _ := h; omega) | (rcases (show _ ∨ _ from h) with h | h <;> omega) | (rcases (show _ ∨ _ ∨ _ from h) with h | h | h <;> omega))
    replace r1 := okeep hOut r1 (fun h => by first | (have h2 : _ = _ := h; omega) | (rcases (show _ ∨ _ from h) with h | h <;> omega) | (rcases (show _ ∨ _ ∨ _ from h) with h | h | h <;> omega))
    by_cases hjn : j < n
    · go_wp2_with fail
      refine (mc _ _ j _ HI6.out HX6.out (hq j (by omega))).mono ?_
      rintro e w7 ⟨⟨v7, rfl, hi7⟩, hb7⟩
      replace o0f := bkeepf hb7 o0 o0f
      replace o1f := bkeepf hb7 o1 o1f
      replace o0 := bkeep hb7 o0
      replace o1 := bkeep hb7 o1
      have HP := Lib.hid (hi7.put2 o0 o1)
      have HX7 := Lib.hid ((HX6.out.keep hb7).put2 o0 o1)
      have hO7 := hOut.below hb7
      obtain ⟨n7, a7, c7, l7, rfl, -⟩ := hi7
      unfold iv at *
      clear x0 x1 r0 r1 r0f r1f
      go_wp2
      refine ⟨⟨j + 1, n7, a7, l7.length, c7, by omega, by go_num, by rw [Int.pow_succ]; exact HP.out _ _, cell_far (cell_here o0 _) (by simp) _, cell_here (cell_far o1 (by simp) _) _, by simpa [go_sem] using o0f, by simpa [go_sem] using o1f, (hO7.set (fun _ => rfl) _).set (fun _ => rfl) _, HX7.out _ _⟩, by simp [intOf]; omega⟩
    · obtain rfl : j = n := by omega
      have HP := Lib.hid (HI6.out.put2 r0 r1)
      have hB6 : Below w.heap.size w wr := hB.trans (hOut.to_below (fun k hk _ h => absurd (show _ = _ from h) (by omega)) (by omega))
      go_wp2
      refine bodyPost_ret (v := .agg #[.bool n6, .slice a6 k6 c6]) (by simp [results, Tryz.results76, go_sem, *]) rfl ⟨⟨_, rfl, HP.out _ _⟩, ?_⟩
      repeat (first | exact Below.refl _ _ | exact hB6 | refine Below.drew ?_ | refine below_drewN ?_ _ | refine bset ?_ (by simp <;> omega) _ | refine bal ?_ _)
end Go.Proofs.YtdllbdfchloijaaGreatDoor

/- Ranges over functions whose told values lie in memory: what is told is known to be right where it is told. -/
namespace Go.Proofs.YtdllbdfchloijaaGreatDoor
open Go.ChangeShapes Go.WideShapes Go.ChangeAt Go.RowKit
set_option linter.unusedVariables false
set_option linter.unusedSimpArgs false
/-- blocks outside X lie as they lay; those of X are of the types that they were of -/
def OutT (X : Nat → Prop) (a b : World) : Prop := Out X a b ∧ ∀ q, X q → q < a.heap.size → typOf b q = typOf a q
end Go.Proofs.YtdllbdfchloijaaGreatDoor

/- The reference's numbers: Sub; Add and Sub of numbers no greater than one of so many digits. -/
namespace Go.Proofs.YtdllbdfchloijaaGreatDoor
open Num
open Go.ChangeShapes Go.WideShapes Go.ChangeAt Go.RowKit
set_option linter.unusedVariables false
set_option linter.unusedSimpArgs false
end Go.Proofs.YtdllbdfchloijaaGreatDoor

/- The reference's numbers: DivMod. -/
namespace Go.Proofs.YtdllbdfchloijaaGreatDoor
open Num
open Go.ChangeShapes Go.WideShapes Go.ChangeAt Go.RowKit
set_option linter.unusedVariables false
set_option linter.unusedSimpArgs false
end Go.Proofs.YtdllbdfchloijaaGreatDoor

/- The reference's numbers: DivMod, by values; Over. -/
namespace Go.Proofs.YtdllbdfchloijaaGreatDoor
open Num
open Go.ChangeShapes Go.WideShapes Go.ChangeAt Go.RowKit
set_option linter.unusedVariables false
set_option linter.unusedSimpArgs false
end Go.Proofs.YtdllbdfchloijaaGreatDoor

