/- Texts of this seat, laid together: EvP, EvA, EvQ. Each opens with its own remark, which says what it proves, and under which conditions. -/
import Derived.Test.YtdllbdfchloijaaGreatDoorV12
import Derived.Test.YtdllbdfchloijaaGreatDoorV02
import Derived.Test.YtdllbdfchloijaaGreatDoorV01
import Derived.Test.YtdllbdfchloijaaGreatDoorV09
import Derived.Test.YtdllbdfchloijaaGreatDoorV13
import Derived.Test.YtdllbdfchloijaaGreatDoorV21
set_option linter.unusedVariables false
set_option linter.unusedSimpArgs false
/- eval, in plain Lean: the program that evaluates coefficients at points, and what it comes to. -/
namespace Go.Proofs.YtdllbdfchloijaaGreatDoor
open Num
set_option linter.unusedVariables false
set_option linter.unusedSimpArgs false
/-- an instruction that is laid, if it does anything -/
def addI (i : Ins) : List Ins := if i.op = 1 ∧ i.to = i.a then [] else [i]
/-- times a small number that is not 0 -/
def timesI (t a c : Int) : Ins :=
  if c = 1 then ⟨1, t, a, 0, 0⟩ else if c = -1 then ⟨2, t, a, 0, 0⟩ else if c = 2 then ⟨7, t, a, 0, 1⟩ else if c = 4 then ⟨7, t, a, 0, 2⟩
  else if c = 8 then ⟨7, t, a, 0, 3⟩ else if c = 16 then ⟨7, t, a, 0, 4⟩ else ⟨5, t, a, 0, c⟩
/-- times so many powers of it -/
def scaledL (t : Int) : Nat → Int → Int → List Ins
  | 0, _, _ => []
  | n + 1, a, c => addI (timesI t a c) ++ scaledL t n t c
/-- the next coefficient is added -/
def addN (t j b term : Int) (n : Nat) : List Ins :=
  if b = 1 ∨ (b = -1 ∧ n % 2 = 0) then [⟨3, t, t, j, 0⟩] else if b = -1 then [⟨4, t, t, j, 0⟩] else scaledL term n j b ++ [⟨3, t, t, term, 0⟩]
def hornL (k : Nat) (t term a b : Int) : Nat → List Ins
  | 0 => []
  | s + 1 => hornL k t term a b s ++ (addI (timesI t (if s = 0 then ((k - 1 : Nat) : Int) else t) a) ++ addN t ((k - 2 - s : Nat) : Int) b term (s + 1))
def pointL (k : Nat) (t term : Int) (q : Int × Int) : List Ins :=
  if k = 1 then [] else if q.1 = 0 ∧ q.2 = 0 then [⟨4, t, 0, 0, 0⟩] else if q.1 = 0 then scaledL t (k - 1) 0 q.2
  else if q.2 = 0 then scaledL t (k - 1) ((k - 1 : Nat) : Int) q.1 else hornL k t term q.1 q.2 (k - 1)
def codeL (k n : Nat) (f : Nat → Int × Int) : Nat → List Ins
  | 0 => []
  | i + 1 => codeL k n f i ++ pointL k ((k + i : Nat) : Int) ((k + n : Nat) : Int) (f i)
def outL (k i : Nat) : Int := if k = 1 then 0 else ((k + i : Nat) : Int)
def outsL (k n : Nat) : List Int := (List.range n).map (outL k)
theorem outsL_len (k n : Nat) : (outsL k n).length = n := by simp [outsL]
theorem outsL_succ (k n : Nat) : outsL k (n + 1) = outsL k n ++ [outL k n] := by simp [outsL, List.range_succ]
theorem outsL_get {k n i : Nat} (h : i < n) : (outsL k n).getD i 0 = outL k i := by simp [outsL, h]
/-- a list of instructions, run on numbers -/
def runI : List Ins → List Int → Option (List Int)
  | [], s => some s
  | i :: L, s => (opI i (s.getD i.a.toNat 0) (s.getD i.b.toNat 0)).bind fun x => runI L (s.set i.to.toNat x)
theorem runI_app (L M : List Ins) : ∀ s, runI (L ++ M) s = (runI L s).bind (runI M) := by
  induction L with
  | nil => intro s; rfl
  | cons i L ih =>
    intro s
    show (opI i _ _).bind _ = ((opI i _ _).bind _).bind _
    cases opI i (s.getD i.a.toNat 0) (s.getD i.b.toNat 0) with
    | none => rfl
    | some x => exact ih _
theorem runI_then {L M : List Ins} {s t u : List Int} (h : runI L s = some t) (k : runI M t = some u) : runI (L ++ M) s = some u := by
  rw [runI_app, h]; exact k
theorem afterN_take (code : List Ins) (r : List Int) : ∀ n, n ≤ code.length → afterN code r n = runI (code.take n) r := by
  intro n
  induction n with
  | zero => intro _; rfl
  | succ n ih =>
    intro h
    rw [afterN, ih (by omega), List.take_succ_eq_append_getElem (by omega), runI_app]
    have e : code.getD n default = code[n] := by simp [show n < code.length by omega]
    rw [e]
    cases runI (code.take n) r with
    | none => rfl
    | some s =>
      show Option.map _ _ = runI [code[n]] s
      unfold runI
      cases opI code[n] (s.getD code[n].a.toNat 0) (s.getD code[n].b.toNat 0) <;> rfl
theorem afterN_run (code : List Ins) (r : List Int) : afterN code r code.length = runI code r := by
  rw [afterN_take code r _ (Nat.le_refl _), List.take_length]
theorem gset (s : List Int) {t : Nat} (x : Int) (j : Nat) (ht : t < s.length) : (s.set t x).getD j 0 = if j = t then x else s.getD j 0 := by
  by_cases e : j = t
  · subst e; simp [ht]
  · rw [if_neg e, List.getD_eq_getElem?_getD, List.getElem?_set_ne (fun h => e h.symm), ← List.getD_eq_getElem?_getD]
theorem set_same (s : List Int) (t : Nat) (ht : t < s.length) : s.set t (s.getD t 0) = s := by
  apply List.ext_getElem?
  intro j
  by_cases e : t = j
  · subst e; simp [ht]
  · rw [List.getElem?_set_ne e]
theorem run1 {i : Ins} {s : List Int} {x : Int} (h : opI i (s.getD i.a.toNat 0) (s.getD i.b.toNat 0) = some x) : runI [i] s = some (s.set i.to.toNat x) := by
  unfold runI; rw [h]; rfl
theorem add_run {i : Ins} (h : ¬ (i.op = 1 ∧ i.to = i.a)) : addI i = [i] := if_neg h
/-- a small number that is not 0 -/
def Smn (c : Int) : Prop := c ≠ 0 ∧ -16 ≤ c ∧ c ≤ 16
theorem times_run (t a : Nat) (c : Int) (s : List Int) (ht : t < s.length) : runI (addI (timesI t a c)) s = some (s.set t (s.getD a 0 * c)) := by
  unfold timesI
  split
  · rename_i h; subst h
    by_cases e : (t : Int) = (a : Int)
    · have : t = a := by omega
      subst this
      rw [show addI ⟨1, (t : Int), (t : Int), 0, 0⟩ = [] from if_pos ⟨rfl, rfl⟩, Int.mul_one, set_same s t ht]; rfl
    · rw [add_run (fun h => e h.2), run1 (x := s.getD a 0 * 1) (by simp [opI])]; rfl
  split
  · rename_i h; subst h
    rw [add_run (fun h => by cases h.1), run1 (x := s.getD a 0 * -1) (by simp [opI])]; rfl
  split
  · rename_i h; subst h
    rw [add_run (fun h => by cases h.1), run1 (x := s.getD a 0 * 2) (by simp [opI])]; rfl
  split
  · rename_i h; subst h
    rw [add_run (fun h => by cases h.1), run1 (x := s.getD a 0 * 4) (by simp [opI])]; rfl
  split
  · rename_i h; subst h
    rw [add_run (fun h => by cases h.1), run1 (x := s.getD a 0 * 8) (by simp [opI])]; rfl
  split
  · rename_i h; subst h
    rw [add_run (fun h => by cases h.1), run1 (x := s.getD a 0 * 16) (by simp [opI])]; rfl
  · rw [add_run (fun h => by cases h.1), run1 (x := s.getD a 0 * c) (by simp [opI])]; rfl
theorem scaled_run (t : Nat) (c : Int) : ∀ (n : Nat) (a : Nat) (s : List Int), t < s.length → runI (scaledL t (n + 1) a c) s = some (s.set t (s.getD a 0 * c ^ (n + 1))) := by
  intro n
  induction n with
  | zero =>
    intro a s ht
    refine runI_then (times_run t a c s ht) ?_
    rw [Int.pow_succ, Int.pow_zero, Int.one_mul]; rfl
  | succ n ih =>
    intro a s ht
    refine runI_then (times_run t a c s ht) ?_
    rw [ih t _ (by simpa using ht), gset _ _ _ ht, if_pos rfl, List.set_set, Int.mul_assoc, ← Int.pow_succ']
open Det (isum isum_congr hv pf is_rev is_one is_zero)
theorem neg_even (n : Nat) : (n % 2 = 0 → (-1 : Int) ^ n = 1) ∧ (¬ n % 2 = 0 → (-1 : Int) ^ n = -1) := by
  induction n with
  | zero => simp
  | succ n ih =>
    rw [Int.pow_succ]
    refine ⟨fun h => ?_, fun h => ?_⟩
    · rw [ih.2 (by omega)]; rfl
    · rw [ih.1 (by omega)]; rfl
/-- the values of two registers may have changed -/
def Off (t term : Nat) (s u : List Int) : Prop := u.length = s.length ∧ ∀ j, j ≠ t → j ≠ term → u.getD j 0 = s.getD j 0
theorem Off.refl (t term : Nat) (s : List Int) : Off t term s s := ⟨rfl, fun _ _ _ => rfl⟩
theorem Off.trans {t term : Nat} {s u v : List Int} (h : Off t term s u) (k : Off t term u v) : Off t term s v := ⟨k.1.trans h.1, fun j a b => (k.2 j a b).trans (h.2 j a b)⟩
theorem Off.set {t term : Nat} (s : List Int) {q : Nat} (x : Int) (hq : q = t ∨ q = term) : Off t term s (s.set q x) := by
  refine ⟨by simp, fun j a b => ?_⟩
  rw [List.getD_eq_getElem?_getD, List.getElem?_set_ne (by rcases hq with rfl | rfl <;> omega), ← List.getD_eq_getElem?_getD]
theorem addN_run (t term j n : Nat) (b : Int) (s : List Int) (ht : t < s.length) (hm : term < s.length) (hj : j ≠ t) (hj2 : j ≠ term) (h2 : t ≠ term) : ∃ u, runI (addN t j b term (n + 1)) s = some u ∧ Off t term s u ∧ u.getD t 0 = s.getD t 0 + s.getD j 0 * b ^ (n + 1) := by
  unfold addN
  split
  · rename_i h
    refine ⟨s.set t (s.getD t 0 + s.getD j 0), run1 (by simp [opI]), Off.set s _ (.inl rfl), ?_⟩
    rw [gset _ _ _ ht, if_pos rfl]
    rcases h with rfl | ⟨rfl, he⟩
    · rw [Int.one_pow, Int.mul_one]
    · rw [(neg_even _).1 he, Int.mul_one]
  split
  · rename_i h h1
    subst h1
    refine ⟨s.set t (s.getD t 0 - s.getD j 0), run1 (by simp [opI]), Off.set s _ (.inl rfl), ?_⟩
    rw [gset _ _ _ ht, if_pos rfl, (neg_even _).2 (fun e => h (.inr ⟨rfl, e⟩))]
    omega
  · refine ⟨(s.set term (s.getD j 0 * b ^ (n + 1))).set t (s.getD t 0 + s.getD j 0 * b ^ (n + 1)), runI_then (scaled_run term b n j s hm) (run1 ?_), (Off.set s _ (.inr rfl)).trans (Off.set _ _ (.inl rfl)), ?_⟩
    · show opI _ ((s.set term (s.getD j 0 * b ^ (n + 1))).getD t 0) ((s.set term (s.getD j 0 * b ^ (n + 1))).getD term 0) = _
      rw [gset _ _ _ hm, if_neg h2, gset _ _ _ hm, if_pos rfl]; simp [opI]
    · rw [gset _ _ _ (by simpa using ht), if_pos rfl]
/-- what stands after s steps -/
def hsum (k : Nat) (c : Nat → Int) (a b : Int) (s : Nat) : Int := isum (s + 1) fun i => c (k - 1 - i) * (a ^ (s - i) * b ^ i)
theorem hsum_succ (k : Nat) (c : Nat → Int) (a b : Int) (s : Nat) : hsum k c a b (s + 1) = hsum k c a b s * a + c (k - 1 - (s + 1)) * b ^ (s + 1) := by
  unfold hsum
  show isum (s + 1) _ + c (k - 1 - (s + 1)) * (a ^ (s + 1 - (s + 1)) * b ^ (s + 1)) = _
  rw [Nat.sub_self, Int.pow_zero, Int.one_mul, ← Det.is_mulR]
  congr 1
  refine isum_congr fun i hi => ?_
  rw [show s + 1 - i = (s - i) + 1 by omega, Int.pow_succ]
  grind
theorem hsum_last (k : Nat) (c : Nat → Int) (a b : Int) : hsum (k + 1) c a b k = hv (k + 1) c a b := by
  unfold hsum hv
  rw [is_rev (k + 1) fun m => c m * pf a b (k + 1) m]
  refine isum_congr fun i hi => ?_
  unfold pf
  rw [show k + 1 - 1 - (k + 1 - 1 - i) = i by omega, show k + 1 - 1 - i = k - i by omega]
theorem horn_run (k t term : Nat) (a b : Int) (c : Nat → Int) (s0 : List Int) (ht : t < s0.length) (hm : term < s0.length) (hkt : k ≤ t) (hkm : k ≤ term) (h2 : t ≠ term) (hc : ∀ j, j < k → s0.getD j 0 = c j) :
    ∀ s, s + 1 ≤ k → ∃ u, runI (hornL k t term a b s) s0 = some u ∧ Off t term s0 u ∧ u.getD (if s = 0 then k - 1 else t) 0 = hsum k c a b s := by
  intro s
  induction s with
  | zero =>
    intro hs
    refine ⟨s0, rfl, Off.refl _ _ _, ?_⟩
    rw [if_pos rfl, hc _ (by omega)]
    show _ = isum 1 _
    simp [isum]
  | succ s ih =>
    intro hs
    obtain ⟨u, hu, ho, hx⟩ := ih (by omega)
    have htu : t < u.length := by rw [ho.1]; exact ht
    have hmu : term < u.length := by rw [ho.1]; exact hm
    have e1 : (if s = 0 then ((k - 1 : Nat) : Int) else (t : Int)) = ((if s = 0 then k - 1 else t : Nat) : Int) := by split <;> rfl
    have h1 := times_run t (if s = 0 then k - 1 else t) a u htu
    rw [hx] at h1
    have ho1 : Off t term u (u.set t (hsum k c a b s * a)) := Off.set u _ (.inl rfl)
    obtain ⟨v, hv1, hv2, hv3⟩ := addN_run t term (k - 2 - s) s b (u.set t (hsum k c a b s * a)) (by simpa using htu) (by simpa using hmu) (by omega) (by omega) h2
    refine ⟨v, ?_, (ho.trans ho1).trans hv2, ?_⟩
    · unfold hornL
      rw [e1]
      exact runI_then hu (runI_then h1 hv1)
    · rw [if_neg (by omega), hv3, gset _ _ _ htu, if_pos rfl, hsum_succ, (ho.trans ho1).2 _ (by omega) (by omega), hc _ (by omega), show k - 2 - s = k - 1 - (s + 1) by omega]
theorem zpow {n : Nat} (h : 0 < n) : (0 : Int) ^ n = 0 := by obtain ⟨m, rfl⟩ := Nat.exists_eq_succ_of_ne_zero (Nat.ne_of_gt h); rw [Int.pow_succ, Int.mul_zero]
theorem hv_a0 (k : Nat) (c : Nat → Int) (b : Int) (hk : 1 ≤ k) : hv k c 0 b = c 0 * b ^ (k - 1) := by
  unfold hv
  rw [is_one (j := 0) hk (fun m h1 h2 => by unfold pf; rw [zpow (by omega), Int.zero_mul, Int.mul_zero])]
  unfold pf; rw [Int.pow_zero, Int.one_mul, Nat.sub_zero]
theorem hv_b0 (k : Nat) (c : Nat → Int) (a : Int) (hk : 1 ≤ k) : hv k c a 0 = c (k - 1) * a ^ (k - 1) := by
  unfold hv
  rw [is_one (j := k - 1) (by omega) (fun m h1 h2 => by unfold pf; rw [zpow (n := k - 1 - m) (by omega), Int.mul_zero, Int.mul_zero])]
  unfold pf; rw [Nat.sub_self, Int.pow_zero, Int.mul_one]
theorem hv_one (c : Nat → Int) (a b : Int) : hv 1 c a b = c 0 := by unfold hv isum; simp [isum, pf]
theorem point_run (k t term : Nat) (q : Int × Int) (c : Nat → Int) (s : List Int) (hk : 1 ≤ k) (ht : t < s.length) (hm : term < s.length) (hkt : k ≤ t) (hkm : k ≤ term) (h2 : t ≠ term) (hc : ∀ j, j < k → s.getD j 0 = c j) :
    ∃ u, runI (pointL k t term q) s = some u ∧ Off t term s u ∧ (k ≠ 1 → u.getD t 0 = hv k c q.1 q.2) := by
  unfold pointL
  by_cases h1 : k = 1
  · rw [if_pos h1]; exact ⟨s, rfl, Off.refl _ _ _, fun h => absurd h1 h⟩
  rw [if_neg h1]
  obtain ⟨m, rfl⟩ : ∃ m, k = m + 2 := ⟨k - 2, by omega⟩
  by_cases h0 : q.1 = 0 ∧ q.2 = 0
  · rw [if_pos h0]
    refine ⟨s.set t 0, run1 (by simp [opI]), Off.set s _ (.inl rfl), fun _ => ?_⟩
    rw [gset _ _ _ ht, if_pos rfl, h0.1, h0.2, hv_a0 _ _ _ hk, zpow (by omega), Int.mul_zero]
  rw [if_neg h0]
  by_cases ha : q.1 = 0
  · rw [if_pos ha]
    refine ⟨_, scaled_run t q.2 m 0 s ht, Off.set s _ (.inl rfl), fun _ => ?_⟩
    rw [gset _ _ _ ht, if_pos rfl, ha, hv_a0 _ _ _ hk, hc 0 (by omega)]; rfl
  rw [if_neg ha]
  by_cases hb : q.2 = 0
  · rw [if_pos hb]
    refine ⟨_, scaled_run t q.1 m (m + 2 - 1) s ht, Off.set s _ (.inl rfl), fun _ => ?_⟩
    rw [gset _ _ _ ht, if_pos rfl, hb, hv_b0 _ _ _ hk, hc _ (by omega)]; rfl
  rw [if_neg hb]
  obtain ⟨u, hu, ho, hx⟩ := horn_run (m + 2) t term q.1 q.2 c s ht hm hkt hkm h2 hc (m + 1) (by omega)
  refine ⟨u, hu, ho, fun _ => ?_⟩
  rw [if_neg (by omega)] at hx
  rw [hx, hsum_last]
theorem code_run (k n : Nat) (f : Nat → Int × Int) (c : Nat → Int) (s : List Int) (hk : 1 ≤ k) (hl : s.length = k + n + 1) (hc : ∀ j, j < k → s.getD j 0 = c j) :
    ∀ i, i ≤ n → ∃ u, runI (codeL k n f i) s = some u ∧ u.length = s.length ∧ (∀ j, j < k → u.getD j 0 = c j) ∧ (k ≠ 1 → ∀ j, j < i → u.getD (k + j) 0 = hv k c (f j).1 (f j).2) := by
  intro i
  induction i with
  | zero => intro _; exact ⟨s, rfl, rfl, hc, fun _ j h => by omega⟩
  | succ i ih =>
    intro hi
    obtain ⟨u, h1, h2, h3, h4⟩ := ih (by omega)
    obtain ⟨v, k1, k2, k3⟩ := point_run k (k + i) (k + n) (f i) c u hk (by omega) (by omega) (by omega) (by omega) (by omega) h3
    refine ⟨v, runI_then h1 k1, k2.1.trans h2, fun j hj => by rw [k2.2 j (by omega) (by omega)]; exact h3 j hj, fun hk1 j hj => ?_⟩
    by_cases e : j = i
    · subst e; exact k3 hk1
    · rw [k2.2 _ (by omega) (by omega)]; exact h4 hk1 j (by omega)
/-- what the outs hold at the end -/
theorem outs_run (k n : Nat) (f : Nat → Int × Int) (c : Nat → Int) (s : List Int) (hk : 1 ≤ k) (hl : s.length = k + n + 1) (hc : ∀ j, j < k → s.getD j 0 = c j) :
    ∃ u, afterN (codeL k n f n) s (codeL k n f n).length = some u ∧ ∀ i, i < n → u.getD (outL k i).toNat 0 = hv k c (f i).1 (f i).2 := by
  obtain ⟨u, h1, h2, h3, h4⟩ := code_run k n f c s hk hl hc n (Nat.le_refl _)
  refine ⟨u, by rw [afterN_run]; exact h1, fun i hi => ?_⟩
  unfold outL
  by_cases e : k = 1
  · subst e; rw [if_pos rfl, hv_one]; exact h3 0 (by omega)
  · rw [if_neg e]; exact h4 e i hi
/-- what each instruction is like -/
def Fine (R k : Nat) (i : Ins) : Prop := mayB i.op i.to i.a i.b i.c R = true ∧ i.op ≠ 6 ∧ i.op ≠ 8 ∧ (i.op = 5 → -16 ≤ i.c ∧ i.c ≤ 16) ∧ (i.op = 7 → i.c ≤ 4)
theorem fine_one {R k : Nat} (op c : Int) (t a : Nat) (ht : t < R) (ha : a < R) (h : ((op = 1 ∨ op = 2) ∧ c = 0) ∨ (op = 7 ∧ 1 ≤ c ∧ c ≤ 4) ∨ (op = 5 ∧ c ≠ 0 ∧ -16 ≤ c ∧ c ≤ 16)) : Fine R k ⟨op, t, a, 0, c⟩ := by
  refine ⟨?_, by dsimp only; omega, by dsimp only; omega, fun e => ?_, fun e => ?_⟩
  · rw [mayB_iff]
    dsimp only
    refine ⟨by omega, by omega, by omega, by omega, fun e => rfl, ?_, by omega, by omega, fun e => ?_⟩
    · rcases h with ⟨h, rfl⟩ | ⟨rfl, h1, h2⟩ | ⟨rfl, h0, h1, h2⟩
      · rw [constB_else (by omega) (by omega)]; rfl
      · rw [constB_shift (.inl rfl)]; exact decide_eq_true (by omega)
      · rw [constB_mul (.inl rfl)]; exact decide_eq_true (by omega)
    · unfold twoB at e; have := of_decide_eq_true e; omega
  · dsimp only at e; dsimp only; omega
  · dsimp only at e; dsimp only; omega
theorem fine_times {R k : Nat} (t a : Nat) (c : Int) (ht : t < R) (ha : a < R) (hc : Smn c) : Fine R k (timesI t a c) := by
  unfold Smn at hc
  unfold timesI
  repeat' split
  all_goals exact fine_one _ _ t a ht ha (by omega)
theorem fine_addI {R k : Nat} {i : Ins} (h : Fine R k i) : ∀ x ∈ addI i, Fine R k x := by
  intro x hx
  unfold addI at hx
  split at hx
  · simp at hx
  · simp at hx; subst hx; exact h
theorem fine_scaled {R k : Nat} (t : Nat) (c : Int) (ht : t < R) (hc : Smn c) : ∀ (n a : Nat), a < R → ∀ x ∈ scaledL t n a c, Fine R k x := by
  intro n
  induction n with
  | zero => intro a _ x hx; simp [scaledL] at hx
  | succ n ih =>
    intro a ha x hx
    rcases List.mem_append.1 hx with h | h
    · exact fine_addI (fine_times t a c ht ha hc) x h
    · exact ih t ht x h
theorem fine_two {R k : Nat} (op : Int) (t a b : Nat) (h : op = 3 ∨ op = 4) (ht : t < R) (ha : a < R) (hb : b < R) : Fine R k ⟨op, t, a, b, 0⟩ := by
  refine ⟨?_, by dsimp only; omega, by dsimp only; omega, fun e => ?_, fun e => ?_⟩
  · rw [mayB_iff]
    dsimp only
    refine ⟨by omega, by omega, by omega, by omega, fun e => (by unfold twoB at e; have := of_decide_eq_false e; omega), ?_, by omega, by omega, fun _ => ⟨by omega, by omega⟩⟩
    rw [constB_else (by omega) (by omega)]; rfl
  · dsimp only at e; omega
  · dsimp only at e; omega
theorem fine_addN {R k : Nat} (t j term n : Nat) (b : Int) (ht : t < R) (hj : j < R) (hm : term < R) (hb : b ≠ 0) (hb2 : -16 ≤ b ∧ b ≤ 16) : ∀ x ∈ addN t j b term n, Fine R k x := by
  intro x hx
  unfold addN at hx
  split at hx
  · simp at hx; subst hx; exact fine_two 3 t t j (.inl rfl) ht ht hj
  split at hx
  · simp at hx; subst hx; exact fine_two 4 t t j (.inr rfl) ht ht hj
  · rcases List.mem_append.1 hx with h | h
    · exact fine_scaled term b hm ⟨hb, hb2⟩ n j hj x h
    · simp at h; subst h; exact fine_two 3 t t term (.inl rfl) ht ht hm
theorem fine_horn {R k : Nat} (t term : Nat) (a b : Int) (ht : t < R) (hm : term < R) (hk : k < R) (ha : Smn a) (hb : Smn b) : ∀ s, ∀ x ∈ hornL k t term a b s, Fine R k x := by
  intro s
  induction s with
  | zero => intro x hx; simp [hornL] at hx
  | succ s ih =>
    intro x hx
    unfold hornL at hx
    rw [show (if s = 0 then ((k - 1 : Nat) : Int) else (t : Int)) = ((if s = 0 then k - 1 else t : Nat) : Int) by split <;> rfl] at hx
    rcases List.mem_append.1 hx with h | h
    · exact ih x h
    rcases List.mem_append.1 h with h | h
    · exact fine_addI (fine_times t _ a ht (by split <;> omega) ha) x h
    · exact fine_addN t _ term _ b ht (by omega) hm hb.1 hb.2 x h
theorem fine_point {R k : Nat} (t term : Nat) (q : Int × Int) (ht : t < R) (hm : term < R) (hk : k < R) (hq : Pt.PIn q.1 q.2) : ∀ x ∈ pointL k t term q, Fine R k x := by
  intro x hx
  obtain ⟨q1, q2⟩ := q
  unfold Pt.PIn at hq
  unfold pointL at hx
  split at hx
  · simp at hx
  split at hx
  · simp at hx; subst hx; exact fine_two 4 t 0 0 (.inr rfl) ht (by omega) (by omega)
  rename_i h0
  split at hx
  · rename_i ha
    exact fine_scaled t q2 ht ⟨fun e => h0 ⟨ha, e⟩, hq.2.2⟩ _ 0 (by omega) x hx
  rename_i ha
  split at hx
  · exact fine_scaled t q1 ht ⟨ha, hq.1, hq.2.1⟩ _ _ (by omega) x hx
  rename_i hb
  exact fine_horn t term q1 q2 ht hm hk ⟨ha, hq.1, hq.2.1⟩ ⟨hb, hq.2.2⟩ _ x hx
theorem fine_code {k n : Nat} (f : Nat → Int × Int) (hq : ∀ i, i < n → Pt.PIn (f i).1 (f i).2) : ∀ i, i ≤ n → ∀ x ∈ codeL k n f i, Fine (k + n + 1) k x := by
  intro i
  induction i with
  | zero => intro _ x hx; simp [codeL] at hx
  | succ i ih =>
    intro hi x hx
    rcases List.mem_append.1 hx with h | h
    · exact ih (by omega) x h
    · exact fine_point (k + i) (k + n) (f i) (by omega) (by omega) (by omega) (hq i (by omega)) x h
theorem addI_le (i : Ins) : (addI i).length ≤ 1 := by unfold addI; split <;> simp
theorem scaled_le (t c : Int) : ∀ (n : Nat) (a : Int), (scaledL t n a c).length ≤ n := by
  intro n
  induction n with
  | zero => intro a; simp [scaledL]
  | succ n ih =>
    intro a
    unfold scaledL
    rw [List.length_append]
    have := addI_le (timesI t a c)
    have := ih t
    omega
theorem addN_le (t j b term : Int) (n : Nat) : (addN t j b term n).length ≤ n + 1 := by
  unfold addN
  split
  · simp
  split
  · simp
  · rw [List.length_append]
    have := scaled_le term b n j
    simp; omega
theorem horn_le (k : Nat) (t term a b : Int) : ∀ s, (hornL k t term a b s).length * 2 ≤ s * (s + 5) := by
  intro s
  induction s with
  | zero => simp [hornL]
  | succ s ih =>
    unfold hornL
    rw [List.length_append, List.length_append]
    have h1 := addI_le (timesI t (if s = 0 then ((k - 1 : Nat) : Int) else t) a)
    have h2 := addN_le t ((k - 2 - s : Nat) : Int) b term (s + 1)
    have h3 : (s + 1) * (s + 1 + 5) = s * (s + 5) + 2 * s + 6 := by grind
    omega
theorem point_le (k : Nat) (t term : Int) (q : Int × Int) (hk : 1 ≤ k) : (pointL k t term q).length * 2 ≤ k * (k + 3) := by
  obtain ⟨m, rfl⟩ : ∃ m, k = m + 1 := ⟨k - 1, by omega⟩
  have h3 : (m + 1) * (m + 1 + 3) = m * (m + 5) + 4 := by grind
  have h4 : 2 * m ≤ m * (m + 5) := by
    have : m * 2 ≤ m * (m + 5) := Nat.mul_le_mul (Nat.le_refl _) (by omega)
    omega
  unfold pointL
  split
  · simp
  split
  · simp; omega
  split
  · have := scaled_le t q.2 (m + 1 - 1) 0; omega
  split
  · have := scaled_le t q.1 (m + 1 - 1) ((m + 1 - 1 : Nat) : Int); omega
  · have := horn_le (m + 1) t term q.1 q.2 (m + 1 - 1)
    rw [show m + 1 - 1 = m by omega] at this ⊢
    omega
theorem code_le (k n : Nat) (f : Nat → Int × Int) (hk : 1 ≤ k) : ∀ i, (codeL k n f i).length * 2 ≤ i * (k * (k + 3)) := by
  intro i
  induction i with
  | zero => simp [codeL]
  | succ i ih =>
    unfold codeL
    rw [List.length_append, Nat.succ_mul]
    have := point_le k ((k + i : Nat) : Int) ((k + n : Nat) : Int) (f i) hk
    omega
/-- the program may be -/
theorem code_ok {k n : Nat} {f : Nat → Int × Int} (hk : 1 ≤ k) (hk8 : k ≤ 8) (hn : 1 ≤ n) (hn15 : n ≤ 15) (hq : ∀ i, i < n → Pt.PIn (f i).1 (f i).2) : ProgOk k (k + n + 1 : Nat) (codeL k n f n) (outsL k n) := by
  have h1 := code_le k n f hk n
  have h2 : k * (k + 3) ≤ 8 * 11 := Nat.mul_le_mul hk8 (by omega)
  have h3 : n * (k * (k + 3)) ≤ 15 * (8 * 11) := Nat.mul_le_mul hn15 h2
  refine ⟨by omega, by omega, by omega, by omega, by rw [outsL_len]; omega, by rw [outsL_len]; omega, fun i hi => ?_, fun i hi => ?_⟩
  · rw [outsL_len] at hi
    rw [outsL_get hi]
    unfold outL
    split <;> omega
  · have e : (codeL k n f n).getD i default = (codeL k n f n)[i] := by simp [hi]
    rw [e]
    exact (fine_code f hq n (Nat.le_refl _) _ (List.getElem_mem hi)).1
end Go.Proofs.YtdllbdfchloijaaGreatDoor

/- math/bits.TrailingZeros, laid from the shelf (its laying is printed by wip/bin/mk_lay.py); eval.times. -/
namespace Go.Proofs.YtdllbdfchloijaaGreatDoor
open Num
open Go.ChangeShapes Go.WideShapes Go.ChangeAt Go.RowKit
set_option linter.unusedVariables false
set_option linter.unusedSimpArgs false
def sh_lay27_ren : Go.Shelf.Ren := ⟨fun | 27 => 72 | 28 => 112 | 29 => 113 | n => n, fun | 0 => 0 | 3 => 3 | 4 => 4 | 5 => 5 | 22 => 149 | 25 => 129 | 27 => 106 | 53 => 200 | 54 => 201 | n => n, fun | 0 => 0 | 1 => 1 | n => n⟩
theorem sh_lay27 : Go.Proofs.Lays7.n27 Tryz.prog sh_lay27_ren := {
  mixed := by kernel_rfl
  f27 := Tryz.func72.trans (congrArg some (by kernel_rfl))
  f28 := Tryz.func112.trans (congrArg some (by kernel_rfl))
  f29 := Tryz.func113.trans (congrArg some (by kernel_rfl))
  t0 := Tryz.underlying0
  a0 := Tryz.isAgg0
  z0 := Tryz.sizeOf0
  v0 := Tryz.zeroValue0
  i0 := by kernel_rfl
  t3 := Tryz.underlying3
  a3 := Tryz.isAgg3
  z3 := Tryz.sizeOf3
  v3 := Tryz.zeroValue3
  i3 := by kernel_rfl
  t4 := Tryz.underlying4
  a4 := Tryz.isAgg4
  z4 := Tryz.sizeOf4
  v4 := Tryz.zeroValue4
  i4 := by kernel_rfl
  t5 := Tryz.underlying5
  a5 := Tryz.isAgg5
  z5 := Tryz.sizeOf5
  v5 := Tryz.zeroValue5
  i5 := by kernel_rfl
  t22 := Tryz.underlying149
  a22 := Tryz.isAgg149
  z22 := Tryz.sizeOf149
  v22 := Tryz.zeroValue149
  i22 := by kernel_rfl
  t25 := Tryz.underlying129
  a25 := Tryz.isAgg129
  z25 := Tryz.sizeOf129
  v25 := Tryz.zeroValue129
  i25 := by kernel_rfl
  t27 := Tryz.underlying106
  a27 := Tryz.isAgg106
  z27 := Tryz.sizeOf106
  v27 := Tryz.zeroValue106
  i27 := by kernel_rfl
  t53 := Tryz.underlying200
  a53 := Tryz.isAgg200
  z53 := Tryz.sizeOf200
  v53 := Tryz.zeroValue200
  i53 := by kernel_rfl
  t54 := Tryz.underlying201
  a54 := Tryz.isAgg201
  z54 := Tryz.sizeOf201
  g0 := by kernel_rfl
  g1 := by kernel_rfl }
/-- the library's table of trailing noughts of 64 bits lies there -/
def Tz64 (w : World) : Prop := TabAt 1 Lib.deBruijn64tab w
theorem Tz64.keep {w w' : World} (h : Tz64 w) (hb : Below w.heap.size w w') : Tz64 w' := fun j hj => bkeep hb (h j hj)
theorem tz64_c (x n : Nat) (w : World) (hx : x < 18446744073709551616) (hT : Tz64 w) (hn : Lib.ctz 64 x = n) :
    Calls Tryz.prog 72 #[.int .u64 (x : Int)] w fun e w' => e = .returned (.int .i64 n) ∧ Below w.heap.size w w' := by
  subst hn
  refine (Go.Proofs.Any7.bits_TrailingZeros sh_lay27 x hx w (fun _ => hT)).mono ?_
  rintro e w' ⟨rfl, rfl⟩
  exact ⟨rfl, Below.refl _ _⟩
theorem tz64_z (x n : Nat) (z m : Int) (w : World) (hx : x < 18446744073709551616) (hT : Tz64 w) (hn : Lib.ctz 64 x = n) (hz : (x : Int) = z) (hm : (n : Int) = m) :
    Calls Tryz.prog 72 #[.int .u64 z] w fun e w' => e = .returned (.int .i64 m) ∧ Below w.heap.size w w' := by
  subst hz hm
  exact tz64_c x n w hx hT hn
set_option maxRecDepth 100000 in
set_option maxHeartbeats 8000000 in
theorem times_1 (t a : Int) (w : World) : Calls Tryz.prog 38 #[.int .i64 t, .int .i64 a, .int .i64 1] w fun e w' => e = .returned (Ins.v ⟨1, t, a, 0, 0⟩) ∧ Below w.heap.size w w' := by
  have hB := Below.refl w.heap.size w
  go_enter Tryz.func38, Tryz.ntmps38
  go_wp2
  refine bodyPost_ret (v := Ins.v ⟨1, t, a, 0, 0⟩) (by simp [results, Tryz.results38, go_sem, Ins.v]) rfl ⟨rfl, by repeat (first | exact Below.refl _ _ | exact hB | refine Below.drew ?_ | refine below_drewN ?_ _ | refine bset ?_ (by simp <;> omega) _ | refine bal ?_ _)⟩
set_option maxRecDepth 100000 in
set_option maxHeartbeats 8000000 in
theorem times_n1 (t a : Int) (w : World) : Calls Tryz.prog 38 #[.int .i64 t, .int .i64 a, .int .i64 (-1)] w fun e w' => e = .returned (Ins.v ⟨2, t, a, 0, 0⟩) ∧ Below w.heap.size w w' := by
  have hB := Below.refl w.heap.size w
  go_enter Tryz.func38, Tryz.ntmps38
  go_wp2
  refine bodyPost_ret (v := Ins.v ⟨2, t, a, 0, 0⟩) (by simp [results, Tryz.results38, go_sem, Ins.v]) rfl ⟨rfl, by repeat (first | exact Below.refl _ _ | exact hB | refine Below.drew ?_ | refine below_drewN ?_ _ | refine bset ?_ (by simp <;> omega) _ | refine bal ?_ _)⟩
set_option maxRecDepth 100000 in
set_option maxHeartbeats 8000000 in
theorem times_2 (t a : Int) (w : World) (hT : Tz64 w) : Calls Tryz.prog 38 #[.int .i64 t, .int .i64 a, .int .i64 2] w fun e w' => e = .returned (Ins.v ⟨7, t, a, 0, 1⟩) ∧ Below w.heap.size w w' := by
  have hB := Below.refl w.heap.size w
  have tc := fun W (h : Below w.heap.size w W) => tz64_z 2 1 2 1 W (by decide) (hT.keep h) (by decide) rfl rfl
  go_enter Tryz.func38, Tryz.ntmps38
  go_wp2_with fail
  (with_reducible refine (tc _ ?_).mono ?_); (repeat (first | exact Below.refl _ _ | exact hB | refine Below.drew ?_ | refine below_drewN ?_ _ | refine bset ?_ (by simp <;> omega) _ | refine bal ?_ _))
  rintro e w1 ⟨rfl, hb1⟩
  have hB1 : Below w.heap.size w w1 := bthen (by repeat (first | exact Below.refl _ _ | exact hB | refine Below.drew ?_ | refine below_drewN ?_ _ | refine bset ?_ (by simp <;> omega) _ | refine bal ?_ _)) hb1
  have r0 : w1.cell? ⟨w.heap.size, 0, none⟩ = some (.int .i64 0) := bkeep hb1 (by simp [go_sem])
  have r1 : w1.cell? ⟨w.heap.size, 1, none⟩ = some (.int .i64 0) := bkeep hb1 (by simp [go_sem])
  have r2 : w1.cell? ⟨w.heap.size, 2, none⟩ = some (.int .i64 0) := bkeep hb1 (by simp [go_sem])
  have r3 : w1.cell? ⟨w.heap.size, 3, none⟩ = some (.int .i64 0) := bkeep hb1 (by simp [go_sem])
  have r4 : w1.cell? ⟨w.heap.size, 4, none⟩ = some (.int .i64 0) := bkeep hb1 (by simp [go_sem])
  have r0f := bkeepf (p := ⟨w.heap.size, 0, none⟩) hb1 (v := .int .i64 0) (by simp [go_sem]) (by simp [go_sem])
  have r1f := bkeepf (p := ⟨w.heap.size, 1, none⟩) hb1 (v := .int .i64 0) (by simp [go_sem]) (by simp [go_sem])
  have r2f := bkeepf (p := ⟨w.heap.size, 2, none⟩) hb1 (v := .int .i64 0) (by simp [go_sem]) (by simp [go_sem])
  have r3f := bkeepf (p := ⟨w.heap.size, 3, none⟩) hb1 (v := .int .i64 0) (by simp [go_sem]) (by simp [go_sem])
  have r4f := bkeepf (p := ⟨w.heap.size, 4, none⟩) hb1 (v := .int .i64 0) (by simp [go_sem]) (by simp [go_sem])
  clear tc hb1
  go_wp2
  refine bodyPost_ret (v := Ins.v ⟨7, t, a, 0, 1⟩) (by simp [results, Tryz.results38, go_sem, Ins.v, *]) rfl ⟨rfl, by repeat (first | exact Below.refl _ _ | exact hB1 | refine Below.drew ?_ | refine below_drewN ?_ _ | refine bset ?_ (by simp <;> omega) _ | refine bal ?_ _)⟩
set_option maxRecDepth 100000 in
set_option maxHeartbeats 8000000 in
theorem times_4 (t a : Int) (w : World) (hT : Tz64 w) : Calls Tryz.prog 38 #[.int .i64 t, .int .i64 a, .int .i64 4] w fun e w' => e = .returned (Ins.v ⟨7, t, a, 0, 2⟩) ∧ Below w.heap.size w w' := by
  have hB := Below.refl w.heap.size w
  have tc := fun W (h : Below w.heap.size w W) => tz64_z 4 2 4 2 W (by decide) (hT.keep h) (by decide) rfl rfl
  go_enter Tryz.func38, Tryz.ntmps38
  go_wp2_with fail
  (with_reducible refine (tc _ ?_).mono ?_); (repeat (first | exact Below.refl _ _ | exact hB | refine Below.drew ?_ | refine below_drewN ?_ _ | refine bset ?_ (by simp <;> omega) _ | refine bal ?_ _))
  rintro e w1 ⟨rfl, hb1⟩
  have hB1 : Below w.heap.size w w1 := bthen (by repeat (first | exact Below.refl _ _ | exact hB | refine Below.drew ?_ | refine below_drewN ?_ _ | refine bset ?_ (by simp <;> omega) _ | refine bal ?_ _)) hb1
  have r0 : w1.cell? ⟨w.heap.size, 0, none⟩ = some (.int .i64 0) := bkeep hb1 (by simp [go_sem])
  have r1 : w1.cell? ⟨w.heap.size, 1, none⟩ = some (.int .i64 0) := bkeep hb1 (by simp [go_sem])
  have r2 : w1.cell? ⟨w.heap.size, 2, none⟩ = some (.int .i64 0) := bkeep hb1 (by simp [go_sem])
  have r3 : w1.cell? ⟨w.heap.size, 3, none⟩ = some (.int .i64 0) := bkeep hb1 (by simp [go_sem])
  have r4 : w1.cell? ⟨w.heap.size, 4, none⟩ = some (.int .i64 0) := bkeep hb1 (by simp [go_sem])
  have r0f := bkeepf (p := ⟨w.heap.size, 0, none⟩) hb1 (v := .int .i64 0) (by simp [go_sem]) (by simp [go_sem])
  have r1f := bkeepf (p := ⟨w.heap.size, 1, none⟩) hb1 (v := .int .i64 0) (by simp [go_sem]) (by simp [go_sem])
  have r2f := bkeepf (p := ⟨w.heap.size, 2, none⟩) hb1 (v := .int .i64 0) (by simp [go_sem]) (by simp [go_sem])
  have r3f := bkeepf (p := ⟨w.heap.size, 3, none⟩) hb1 (v := .int .i64 0) (by simp [go_sem]) (by simp [go_sem])
  have r4f := bkeepf (p := ⟨w.heap.size, 4, none⟩) hb1 (v := .int .i64 0) (by simp [go_sem]) (by simp [go_sem])
  clear tc hb1
  go_wp2
  refine bodyPost_ret (v := Ins.v ⟨7, t, a, 0, 2⟩) (by simp [results, Tryz.results38, go_sem, Ins.v, *]) rfl ⟨rfl, by repeat (first | exact Below.refl _ _ | exact hB1 | refine Below.drew ?_ | refine below_drewN ?_ _ | refine bset ?_ (by simp <;> omega) _ | refine bal ?_ _)⟩
set_option maxRecDepth 100000 in
set_option maxHeartbeats 8000000 in
theorem times_8 (t a : Int) (w : World) (hT : Tz64 w) : Calls Tryz.prog 38 #[.int .i64 t, .int .i64 a, .int .i64 8] w fun e w' => e = .returned (Ins.v ⟨7, t, a, 0, 3⟩) ∧ Below w.heap.size w w' := by
  have hB := Below.refl w.heap.size w
  have tc := fun W (h : Below w.heap.size w W) => tz64_z 8 3 8 3 W (by decide) (hT.keep h) (by decide) rfl rfl
  go_enter Tryz.func38, Tryz.ntmps38
  go_wp2_with fail
  (with_reducible refine (tc _ ?_).mono ?_); (repeat (first | exact Below.refl _ _ | exact hB | refine Below.drew ?_ | refine below_drewN ?_ _ | refine bset ?_ (by simp <;> omega) _ | refine bal ?_ _))
  rintro e w1 ⟨rfl, hb1⟩
  have hB1 : Below w.heap.size w w1 := bthen (by repeat (first | exact Below.refl _ _ | exact hB | refine Below.drew ?_ | refine below_drewN ?_ _ | refine bset ?_ (by simp <;> omega) _ | refine bal ?_ _)) hb1
  have r0 : w1.cell? ⟨w.heap.size, 0, none⟩ = some (.int .i64 0) := bkeep hb1 (by simp [go_sem])
  have r1 : w1.cell? ⟨w.heap.size, 1, none⟩ = some (.int .i64 0) := bkeep hb1 (by simp [go_sem])
  have r2 : w1.cell? ⟨w.heap.size, 2, none⟩ = some (.int .i64 0) := bkeep hb1 (by simp [go_sem])
  have r3 : w1.cell? ⟨w.heap.size, 3, none⟩ = some (.int .i64 0) := bkeep hb1 (by simp [go_sem])
  have r4 : w1.cell? ⟨w.heap.size, 4, none⟩ = some (.int .i64 0) := bkeep hb1 (by simp [go_sem])
  have r0f := bkeepf (p := ⟨w.heap.size, 0, none⟩) hb1 (v := .int .i64 0) (by simp [go_sem]) (by simp [go_sem])
  have r1f := bkeepf (p := ⟨w.heap.size, 1, none⟩) hb1 (v := .int .i64 0) (by simp [go_sem]) (by simp [go_sem])
  have r2f := bkeepf (p := ⟨w.heap.size, 2, none⟩) hb1 (v := .int .i64 0) (by simp [go_sem]) (by simp [go_sem])
  have r3f := bkeepf (p := ⟨w.heap.size, 3, none⟩) hb1 (v := .int .i64 0) (by simp [go_sem]) (by simp [go_sem])
  have r4f := bkeepf (p := ⟨w.heap.size, 4, none⟩) hb1 (v := .int .i64 0) (by simp [go_sem]) (by simp [go_sem])
  clear tc hb1
  go_wp2
  refine bodyPost_ret (v := Ins.v ⟨7, t, a, 0, 3⟩) (by simp [results, Tryz.results38, go_sem, Ins.v, *]) rfl ⟨rfl, by repeat (first | exact Below.refl _ _ | exact hB1 | refine Below.drew ?_ | refine below_drewN ?_ _ | refine bset ?_ (by simp <;> omega) _ | refine bal ?_ _)⟩
set_option maxRecDepth 100000 in
set_option maxHeartbeats 8000000 in
theorem times_16 (t a : Int) (w : World) (hT : Tz64 w) : Calls Tryz.prog 38 #[.int .i64 t, .int .i64 a, .int .i64 16] w fun e w' => e = .returned (Ins.v ⟨7, t, a, 0, 4⟩) ∧ Below w.heap.size w w' := by
  have hB := Below.refl w.heap.size w
  have tc := fun W (h : Below w.heap.size w W) => tz64_z 16 4 16 4 W (by decide) (hT.keep h) (by decide) rfl rfl
  go_enter Tryz.func38, Tryz.ntmps38
  go_wp2_with fail
  (with_reducible refine (tc _ ?_).mono ?_); (repeat (first | exact Below.refl _ _ | exact hB | refine Below.drew ?_ | refine below_drewN ?_ _ | refine bset ?_ (by simp <;> omega) _ | refine bal ?_ _))
  rintro e w1 ⟨rfl, hb1⟩
  have hB1 : Below w.heap.size w w1 := bthen (by repeat (first | exact Below.refl _ _ | exact hB | refine Below.drew ?_ | refine below_drewN ?_ _ | refine bset ?_ (by simp <;> omega) _ | refine bal ?_ _)) hb1
  have r0 : w1.cell? ⟨w.heap.size, 0, none⟩ = some (.int .i64 0) := bkeep hb1 (by simp [go_sem])
  have r1 : w1.cell? ⟨w.heap.size, 1, none⟩ = some (.int .i64 0) := bkeep hb1 (by simp [go_sem])
  have r2 : w1.cell? ⟨w.heap.size, 2, none⟩ = some (.int .i64 0) := bkeep hb1 (by simp [go_sem])
  have r3 : w1.cell? ⟨w.heap.size, 3, none⟩ = some (.int .i64 0) := bkeep hb1 (by simp [go_sem])
  have r4 : w1.cell? ⟨w.heap.size, 4, none⟩ = some (.int .i64 0) := bkeep hb1 (by simp [go_sem])
  have r0f := bkeepf (p := ⟨w.heap.size, 0, none⟩) hb1 (v := .int .i64 0) (by simp [go_sem]) (by simp [go_sem])
  have r1f := bkeepf (p := ⟨w.heap.size, 1, none⟩) hb1 (v := .int .i64 0) (by simp [go_sem]) (by simp [go_sem])
  have r2f := bkeepf (p := ⟨w.heap.size, 2, none⟩) hb1 (v := .int .i64 0) (by simp [go_sem]) (by simp [go_sem])
  have r3f := bkeepf (p := ⟨w.heap.size, 3, none⟩) hb1 (v := .int .i64 0) (by simp [go_sem]) (by simp [go_sem])
  have r4f := bkeepf (p := ⟨w.heap.size, 4, none⟩) hb1 (v := .int .i64 0) (by simp [go_sem]) (by simp [go_sem])
  clear tc hb1
  go_wp2
  refine bodyPost_ret (v := Ins.v ⟨7, t, a, 0, 4⟩) (by simp [results, Tryz.results38, go_sem, Ins.v, *]) rfl ⟨rfl, by repeat (first | exact Below.refl _ _ | exact hB1 | refine Below.drew ?_ | refine below_drewN ?_ _ | refine bset ?_ (by simp <;> omega) _ | refine bal ?_ _)⟩
theorem bits_odd {c : Int} (h1 : 0 < c) (h2 : c ≤ 16) (n1 : c ≠ 1) (n2 : c ≠ 2) (n4 : c ≠ 4) (n8 : c ≠ 8) (n16 : c ≠ 16) : ¬ bits .and .i64 c (c - 1) = 0 := by
  rcases (show c = 3 ∨ c = 5 ∨ c = 6 ∨ c = 7 ∨ c = 9 ∨ c = 10 ∨ c = 11 ∨ c = 12 ∨ c = 13 ∨ c = 14 ∨ c = 15 by omega) with rfl | rfl | rfl | rfl | rfl | rfl | rfl | rfl | rfl | rfl | rfl <;> decide
set_option maxRecDepth 100000 in
set_option maxHeartbeats 8000000 in
theorem times_m (t a c : Int) (w : World) (h1 : c ≠ 1) (h2 : c ≠ -1) (hp : ¬ (0 < c ∧ bits .and .i64 c (c - 1) = 0)) (hc : Smn c) :
    Calls Tryz.prog 38 #[.int .i64 t, .int .i64 a, .int .i64 c] w fun e w' => e = .returned (Ins.v ⟨5, t, a, 0, c⟩) ∧ Below w.heap.size w w' := by
  have hB := Below.refl w.heap.size w
  have e1 : (c == 1) = false := by simpa using h1
  have e2 : (c == -1) = false := by simpa using h2
  have e3 : wrap64 (c - 1) = c - 1 := by unfold wrap64; have := hc.2; omega
  by_cases h0 : 0 < c
  · have hz : (bits .and .i64 c (c - 1) == 0) = false := by
      have : ¬ bits .and .i64 c (c - 1) = 0 := fun e => hp ⟨h0, e⟩
      simpa using this
    go_enter Tryz.func38, Tryz.ntmps38
    go_wp2
    refine bodyPost_ret (v := Ins.v ⟨5, t, a, 0, c⟩) (by simp [results, Tryz.results38, go_sem, Ins.v]) rfl ⟨rfl, by repeat (first | exact Below.refl _ _ | exact hB | refine Below.drew ?_ | refine below_drewN ?_ _ | refine bset ?_ (by simp <;> omega) _ | refine bal ?_ _)⟩
  ·
    go_enter Tryz.func38, Tryz.ntmps38
    go_wp2
    refine bodyPost_ret (v := Ins.v ⟨5, t, a, 0, c⟩) (by simp [results, Tryz.results38, go_sem, Ins.v]) rfl ⟨rfl, by repeat (first | exact Below.refl _ _ | exact hB | refine Below.drew ?_ | refine below_drewN ?_ _ | refine bset ?_ (by simp <;> omega) _ | refine bal ?_ _)⟩
theorem timesI_c (t a c : Int) (w : World) (hc : Smn c) (hT : Tz64 w) :
    Calls Tryz.prog 38 #[.int .i64 t, .int .i64 a, .int .i64 c] w fun e w' => e = .returned (timesI t a c).v ∧ Below w.heap.size w w' := by
  unfold timesI
  split
  · rename_i h; subst h; exact times_1 t a w
  split
  · rename_i h; subst h; exact times_n1 t a w
  split
  · rename_i h; subst h; exact times_2 t a w hT
  split
  · rename_i h; subst h; exact times_4 t a w hT
  split
  · rename_i h; subst h; exact times_8 t a w hT
  split
  · rename_i h; subst h; exact times_16 t a w hT
  · rename_i h1 h2 h3 h4 h5 h6
    exact times_m t a c w h1 h2 (fun h => bits_odd h.1 hc.2.2 h1 h3 h4 h5 h6 h.2) hc
end Go.Proofs.YtdllbdfchloijaaGreatDoor

/- eval, in plain Lean: whether a program evaluates; the one that is told does. -/
namespace Go.Proofs.YtdllbdfchloijaaGreatDoor
open Num
open Det (isum isum_congr hv pf is_one)
set_option linter.unusedVariables false
set_option linter.unusedSimpArgs false
/-- rows with a 1 each -/
def unitG (k : Nat) : Grid := (List.range k).map fun i => (List.range k).map fun j => if j = i then (1 : Int) else 0
theorem unitG_len (k : Nat) : (unitG k).length = k := by simp [unitG]
theorem unitG_row {k i : Nat} (h : i < k) : (unitG k).getD i [] = (List.range k).map fun j => if j = i then (1 : Int) else 0 := by simp [unitG, h]
theorem unitG_rect (k : Nat) : Rect k (unitG k) := fun i hi => by
  rw [unitG_len] at hi
  rw [unitG_row hi]; simp
theorem unitG_bd (k : Nat) : BdG 1 (unitG k) := fun i j => by
  by_cases hi : i < k
  · rw [unitG_row hi]
    by_cases hj : j < k
    · rw [show ((List.range k).map fun j => if j = i then (1 : Int) else 0).getD j 0 = if j = i then 1 else 0 by simp [hj]]
      unfold Bd; split <;> decide
    · rw [List.getD_eq_getElem?_getD, List.getElem?_eq_none (by simp; omega)]; exact bd_zero
  · rw [List.getD_eq_getElem?_getD (l := unitG k), List.getElem?_eq_none (by rw [unitG_len]; omega)]; exact bd_zero
theorem start_rect {m R : Nat} {g : Grid} (h : Rect m g) (hl : g.length ≤ R) : Rect m (startG g R m) := fun i hi => by
  unfold startG at hi ⊢
  by_cases e : i < g.length
  · rw [List.getD_eq_getElem?_getD, List.getElem?_append_left e, ← List.getD_eq_getElem?_getD]; exact h i e
  · rw [List.length_append, List.length_replicate] at hi
    rw [List.getD_eq_getElem?_getD, List.getElem?_append_right (by omega), List.getElem?_replicate, if_pos (by omega)]; simp
theorem start_col {m R j : Nat} {g : Grid} (hj : j < m) : colG (startG g R m) j = startN (colG g j) R := by
  unfold colG startG startN
  rw [List.map_append, List.map_replicate, List.length_map]
  congr 2
  simp [hj]
/-- no instruction that may fail -/
def NoDiv (code : List Ins) : Prop := ∀ n, n < code.length → (code.getD n default).op ≠ 6 ∧ (code.getD n default).op ≠ 8
theorem opI_some (i : Ins) (a b : Int) (h : i.op ≠ 6 ∧ i.op ≠ 8) : ∃ x, opI i a b = some x := by
  unfold opI
  repeat' split
  all_goals first | exact ⟨_, rfl⟩ | (exfalso; omega)
theorem nodiv_after {code : List Ins} (g : Grid) (h : NoDiv code) : ∀ n, n ≤ code.length → ∃ s, after code g n = some s := by
  intro n
  induction n with
  | zero => intro _; exact ⟨g, rfl⟩
  | succ n ih =>
    intro hn
    obtain ⟨s, hs⟩ := ih (by omega)
    rw [after, hs, Option.bind_some]
    cases e : stepR (code.getD n default) (s.getD (code.getD n default).a.toNat []) (s.getD (code.getD n default).b.toNat []) with
    | some r => exact ⟨_, rfl⟩
    | none =>
      obtain ⟨k, _, h2⟩ := stepR_none e
      obtain ⟨x, hx⟩ := opI_some (code.getD n default) _ _ (h n (by omega))
      rw [hx] at h2; cases h2
/-- whether a program's outs are the powers of the points -/
def Evs (code : List Ins) (outs : List Int) (R k n : Nat) (f : Nat → Int × Int) : Prop :=
  ∀ s, after code (startG (unitG k) R k) code.length = some s → ∀ i, i < n → ∀ j, j < k → gat (outsG outs s) i j = pf (f i).1 (f i).2 k j
theorem hv_unit {k j : Nat} (hj : j < k) (a b : Int) : hv k (fun i => if j = i then 1 else 0) a b = pf a b k j := by
  unfold hv
  rw [is_one hj (fun m _ h => by dsimp only; rw [if_neg (Ne.symm h), Int.zero_mul])]
  dsimp only; rw [if_pos rfl, Int.one_mul]
theorem colG_unit {k j : Nat} (hj : j < k) : colG (unitG k) j = (List.range k).map fun i => if j = i then (1 : Int) else 0 := by
  unfold colG unitG
  rw [List.map_map]
  apply List.map_congr_left
  intro i _
  simp [hj]
theorem fine_all {k n : Nat} {f : Nat → Int × Int} (hq : ∀ i, i < n → Pt.PIn (f i).1 (f i).2) : ∀ m, m < (codeL k n f n).length → Fine (k + n + 1) k ((codeL k n f n).getD m default) := fun m hm => by
  rw [show (codeL k n f n).getD m default = (codeL k n f n)[m] by simp [hm]]
  exact fine_code f hq n (Nat.le_refl _) _ (List.getElem_mem hm)
theorem code_nodiv {k n : Nat} {f : Nat → Int × Int} (hq : ∀ i, i < n → Pt.PIn (f i).1 (f i).2) : NoDiv (codeL k n f n) := fun m hm => ⟨(fine_all hq m hm).2.1, (fine_all hq m hm).2.2.1⟩
/-- the program that is told evaluates -/
theorem code_evs {k n : Nat} {f : Nat → Int × Int} (hk : 1 ≤ k) (hq : ∀ i, i < n → Pt.PIn (f i).1 (f i).2) : Evs (codeL k n f n) (outsL k n) (k + n + 1) k n f := by
  intro s hs i hi j hj
  have hgl : (startG (unitG k) (k + n + 1) k).length = k + n + 1 := startG_len (by rw [unitG_len]; omega)
  have hc := col_after (start_rect (unitG_rect k) (by rw [unitG_len]; omega)) hgl (fun m hm => by
    have := (mayB_iff ..).1 (fine_all hq m hm).1
    omega) hj (Nat.le_refl _) hs
  rw [start_col hj, colG_unit hj] at hc
  obtain ⟨u, h1, h2⟩ := outs_run k n f (fun i => if j = i then 1 else 0) (startN ((List.range k).map fun i => if j = i then (1 : Int) else 0) (k + n + 1)) hk (by simp [startN]; omega) (fun i hi => by
    unfold startN
    rw [List.getD_eq_getElem?_getD, List.getElem?_append_left (by simpa using hi)]
    simp [hi])
  rw [hc] at h1
  cases h1
  have := h2 i hi
  rw [hv_unit hj, colG_get] at this
  rw [← this]
  unfold gat outsG
  rw [show ((outsL k n).map fun k => s.getD k.toNat []).getD i [] = s.getD ((outsL k n).getD i 0).toNat [] by simp [outsL_len, hi], outsL_get hi]
end Go.Proofs.YtdllbdfchloijaaGreatDoor

