/- Texts of this seat, laid together: Num, NumR, Lib, LimbA, LimbB, LimbC, NumB, IntA, Out. What each theorem proves, and under which conditions, its statement says. -/
import Derived.Test.YtbmaffijncapiaaGreatDoorRows
import Derived.WalkKit
import Derived.ProofKit
import Derived.OpenShut
import Derived.Deep.QuietTactic
import Derived.BigQuiet
import Derived.Outline
import Derived.Lib.Hide
import Derived.WalkSmall
import Derived.WalkSpells
import Derived.WalkLawsBesides
import Derived.Deep.RegionWith
import Derived.Deep.RegionHeld3
import Derived.Laws.CopyOwn
import Derived.Shelf.Small.Bits
set_option maxRecDepth 100000
set_option maxHeartbeats 32000000
set_option linter.unusedVariables false
set_option linter.unusedSimpArgs false
namespace Go.Proofs.YtbmaffijncapiaaGreatDoor.Num

def BB : Nat := 4294967296
theorem BB_pos : 0 < BB := by unfold BB; omega
def val : List Nat → Nat
 | [] => 0
 | x :: l => x + BB * val l
def Limbs (l : List Nat) : Prop := ∀ x ∈ l, x < BB
def Nrm (l : List Nat) : Prop := ∀ h : l ≠ [], l.getLast h ≠ 0
def trimL (l : List Nat) : List Nat := (l.reverse.dropWhile (· == 0)).reverse

theorem val_append (l m : List Nat) : val (l ++ m) = val l + BB ^ l.length * val m := by
 induction l with
 | nil => simp [val]
 | cons x l ih =>
  simp only [val, List.cons_append, ih, List.length_cons, Nat.pow_succ, Nat.mul_add, Nat.add_assoc]
  congr 2
  rw [← Nat.mul_assoc, Nat.mul_comm BB]
theorem val_lt {l : List Nat} (h : Limbs l) : val l < BB ^ l.length := by
 induction l with
 | nil => simp [val]
 | cons x l ih =>
  have h1 := ih (fun y hy => h y (by simp [hy]))
  have h2 := h x (by simp)
  simp only [val, List.length_cons, Nat.pow_succ]
  have h3 : val l + 1 ≤ BB ^ l.length := h1
  have h4 := Nat.mul_le_mul_left BB h3
  rw [Nat.mul_add] at h4
  rw [Nat.mul_comm (BB ^ l.length) BB]
  omega
theorem val_zeros (n : Nat) : val (List.replicate n 0) = 0 := by
 induction n with
 | zero => rfl
 | succ n ih => simp [List.replicate_succ, val, ih]
theorem trimL_append_zero (l : List Nat) : trimL (l ++ [0]) = trimL l := by simp [trimL]
theorem trimL_append_pos (l : List Nat) (x : Nat) (h : x ≠ 0) : trimL (l ++ [x]) = l ++ [x] := by simp [trimL, h]
theorem trimL_nil : trimL [] = [] := rfl
theorem list_snoc_ind {P : List Nat → Prop} (h0 : P []) (h1 : ∀ l x, P l → P (l ++ [x])) (l : List Nat) : P l := by
 rw [← List.reverse_reverse l]
 generalize l.reverse = m
 induction m with
 | nil => exact h0
 | cons x m ih => rw [List.reverse_cons]; exact h1 _ _ ih
theorem val_trim (l : List Nat) : val (trimL l) = val l := by
 induction l using list_snoc_ind with
 | h0 => rfl
 | h1 l x ih =>
  by_cases hx : x = 0
  · subst hx; rw [trimL_append_zero, ih, val_append]; simp [val]
  · rw [trimL_append_pos l x hx]
theorem trim_prefix (l : List Nat) : trimL l <+: l := by
 induction l using list_snoc_ind with
 | h0 => exact List.prefix_rfl
 | h1 l x ih =>
  by_cases hx : x = 0
  · subst hx; rw [trimL_append_zero]; exact ih.trans (List.prefix_append _ _)
  · rw [trimL_append_pos l x hx]; exact List.prefix_rfl
theorem trim_len (l : List Nat) : (trimL l).length ≤ l.length := (trim_prefix l).length_le
theorem trim_limbs {l : List Nat} (h : Limbs l) : Limbs (trimL l) := fun x hx => h x ((trim_prefix l).subset hx)
theorem trim_nrm (l : List Nat) : Nrm (trimL l) := by
 induction l using list_snoc_ind with
 | h0 => intro h; exact absurd rfl h
 | h1 l x ih =>
  by_cases hx : x = 0
  · subst hx; rw [trimL_append_zero]; exact ih
  · rw [trimL_append_pos l x hx]; intro h; simpa using hx
theorem trim_of_nrm {l : List Nat} (h : Nrm l) : trimL l = l := by
 induction l using list_snoc_ind with
 | h0 => rfl
 | h1 l x ih =>
  have := h (by simp)
  simp at this
  exact trimL_append_pos l x this
theorem trim_take (l : List Nat) : trimL l = l.take (trimL l).length := by
 have := List.prefix_iff_eq_take.1 (trim_prefix l)
 exact this
theorem nrm_val_pos {l : List Nat} (h : Nrm l) (hn : l ≠ []) : BB ^ (l.length - 1) ≤ val l := by
 obtain ⟨m, x, rfl⟩ : ∃ m x, l = m ++ [x] := ⟨l.dropLast, l.getLast hn, (List.dropLast_concat_getLast hn).symm⟩
 have hx := h hn
 simp at hx
 rw [val_append]
 simp [val]
 have : BB ^ m.length * 1 ≤ BB ^ m.length * x := Nat.mul_le_mul_left _ (by omega)
 omega
theorem nrm_unique {l m : List Nat} (hl : Limbs l) (hm : Limbs m) (nl : Nrm l) (nm : Nrm m) (h : val l = val m) : l = m := by
 have len : l.length = m.length := by
  rcases Nat.lt_trichotomy l.length m.length with hlt | heq | hgt
  · exfalso
    have hm0 : m ≠ [] := by intro e; subst e; simp at hlt
    have h1 := nrm_val_pos nm hm0
    have h2 := val_lt hl
    have h3 : BB ^ l.length ≤ BB ^ (m.length - 1) := Nat.pow_le_pow_right BB_pos (by omega)
    omega
  · exact heq
  · exfalso
    have hl0 : l ≠ [] := by intro e; subst e; simp at hgt
    have h1 := nrm_val_pos nl hl0
    have h2 := val_lt hm
    have h3 : BB ^ m.length ≤ BB ^ (l.length - 1) := Nat.pow_le_pow_right BB_pos (by omega)
    omega
 clear nl nm
 induction l generalizing m with
 | nil => cases m with
  | nil => rfl
  | cons => simp at len
 | cons x l ih =>
  cases m with
  | nil => simp at len
  | cons y m =>
   have hx := hl x (by simp)
   have hy := hm y (by simp)
   simp only [val] at h
   have e1 : (x + BB * val l) % BB = x := by rw [Nat.add_mul_mod_self_left, Nat.mod_eq_of_lt hx]
   have e2 : (y + BB * val m) % BB = y := by rw [Nat.add_mul_mod_self_left, Nat.mod_eq_of_lt hy]
   have exy : x = y := by rw [← e1, h, e2]
   subst exy
   have : BB * val l = BB * val m := by omega
   have := Nat.eq_of_mul_eq_mul_left BB_pos this
   rw [ih (fun z hz => hl z (by simp [hz])) (fun z hz => hm z (by simp [hz])) this (by simpa using len)]
end Go.Proofs.YtbmaffijncapiaaGreatDoor.Num
namespace Go.Proofs.YtbmaffijncapiaaGreatDoor.NumR
open Num (Nrm trimL trimL_append_zero trimL_append_pos trimL_nil list_snoc_ind trim_prefix trim_len trim_nrm trim_of_nrm trim_take)

def BB : Nat := 65536
theorem BB_pos : 0 < BB := by unfold BB; omega
def val : List Nat → Nat
 | [] => 0
 | x :: l => x + BB * val l
def Limbs (l : List Nat) : Prop := ∀ x ∈ l, x < BB
theorem val_append (l m : List Nat) : val (l ++ m) = val l + BB ^ l.length * val m := by
 induction l with
 | nil => simp [val]
 | cons x l ih =>
  simp only [val, List.cons_append, ih, List.length_cons, Nat.pow_succ, Nat.mul_add, Nat.add_assoc]
  congr 2
  rw [← Nat.mul_assoc, Nat.mul_comm BB]
theorem val_lt {l : List Nat} (h : Limbs l) : val l < BB ^ l.length := by
 induction l with
 | nil => simp [val]
 | cons x l ih =>
  have h1 := ih (fun y hy => h y (by simp [hy]))
  have h2 := h x (by simp)
  simp only [val, List.length_cons, Nat.pow_succ]
  have h3 : val l + 1 ≤ BB ^ l.length := h1
  have h4 := Nat.mul_le_mul_left BB h3
  rw [Nat.mul_add] at h4
  rw [Nat.mul_comm (BB ^ l.length) BB]
  omega
theorem val_zeros (n : Nat) : val (List.replicate n 0) = 0 := by
 induction n with
 | zero => rfl
 | succ n ih => simp [List.replicate_succ, val, ih]
theorem val_trim (l : List Nat) : val (trimL l) = val l := by
 induction l using list_snoc_ind with
 | h0 => rfl
 | h1 l x ih =>
  by_cases hx : x = 0
  · subst hx; rw [trimL_append_zero, ih, val_append]; simp [val]
  · rw [trimL_append_pos l x hx]
theorem trim_limbs {l : List Nat} (h : Limbs l) : Limbs (trimL l) := fun x hx => h x ((trim_prefix l).subset hx)
theorem nrm_val_pos {l : List Nat} (h : Nrm l) (hn : l ≠ []) : BB ^ (l.length - 1) ≤ val l := by
 obtain ⟨m, x, rfl⟩ : ∃ m x, l = m ++ [x] := ⟨l.dropLast, l.getLast hn, (List.dropLast_concat_getLast hn).symm⟩
 have hx := h hn
 simp at hx
 rw [val_append]
 simp [val]
 have : BB ^ m.length * 1 ≤ BB ^ m.length * x := Nat.mul_le_mul_left _ (by omega)
 omega
theorem nrm_unique {l m : List Nat} (hl : Limbs l) (hm : Limbs m) (nl : Nrm l) (nm : Nrm m) (h : val l = val m) : l = m := by
 have len : l.length = m.length := by
  rcases Nat.lt_trichotomy l.length m.length with hlt | heq | hgt
  · exfalso
    have hm0 : m ≠ [] := by intro e; subst e; simp at hlt
    have h1 := nrm_val_pos nm hm0
    have h2 := val_lt hl
    have h3 : BB ^ l.length ≤ BB ^ (m.length - 1) := Nat.pow_le_pow_right BB_pos (by omega)
    omega
  · exact heq
  · exfalso
    have hl0 : l ≠ [] := by intro e; subst e; simp at hgt
    have h1 := nrm_val_pos nl hl0
    have h2 := val_lt hm
    have h3 : BB ^ m.length ≤ BB ^ (l.length - 1) := Nat.pow_le_pow_right BB_pos (by omega)
    omega
 clear nl nm
 induction l generalizing m with
 | nil => cases m with
  | nil => rfl
  | cons => simp at len
 | cons x l ih =>
  cases m with
  | nil => simp at len
  | cons y m =>
   have hx := hl x (by simp)
   have hy := hm y (by simp)
   simp only [val] at h
   have e1 : (x + BB * val l) % BB = x := by rw [Nat.add_mul_mod_self_left, Nat.mod_eq_of_lt hx]
   have e2 : (y + BB * val m) % BB = y := by rw [Nat.add_mul_mod_self_left, Nat.mod_eq_of_lt hy]
   have exy : x = y := by rw [← e1, h, e2]
   subst exy
   have : BB * val l = BB * val m := by omega
   have := Nat.eq_of_mul_eq_mul_left BB_pos this
   rw [ih (fun z hz => hl z (by simp [hz])) (fun z hz => hm z (by simp [hz])) this (by simpa using len)]
theorem val_set {l : List Nat} {k : Nat} (x : Nat) (hk : k < l.length) : val (l.set k x) + l.getD k 0 * BB ^ k = val l + x * BB ^ k := by
 induction l generalizing k with
 | nil => simp at hk
 | cons y l ih =>
  cases k with
  | zero => simp [val]; omega
  | succ k =>
   have := ih (k := k) (by simpa using hk)
   simp only [List.set_cons_succ, val, List.getD_cons_succ, Nat.pow_succ]
   have e := congrArg (BB * ·) this
   simp only [Nat.mul_add] at e
   have c1 : ∀ z : Nat, z * (BB ^ k * BB) = BB * (z * BB ^ k) := fun z => by rw [← Nat.mul_assoc, Nat.mul_comm]
   rw [c1, c1]
   omega
theorem limbs_set {l : List Nat} {k x : Nat} (h : Limbs l) (hx : x < BB) : Limbs (l.set k x) := by
 intro y hy
 rcases List.mem_or_eq_of_mem_set hy with h1 | rfl
 · exact h y h1
 · exact hx
theorem limb_get {l : List Nat} (h : Limbs l) (k : Nat) : l.getD k 0 < BB := by
 by_cases hk : k < l.length
 · simp only [List.getD_eq_getElem?_getD, List.getElem?_eq_getElem hk, Option.getD_some]; exact h _ (List.getElem_mem hk)
 · simp [hk, BB_pos, Nat.le_of_not_lt hk]
theorem val_take_succ {l : List Nat} {k : Nat} (hk : k < l.length) : val (l.take (k + 1)) = val (l.take k) + l.getD k 0 * BB ^ k := by
 rw [List.take_succ_eq_append_getElem hk, val_append]
 simp [val, hk, Nat.min_eq_left (Nat.le_of_lt hk), Nat.mul_comm]
theorem val_split {l : List Nat} {k : Nat} (hk : k < l.length) : val l = val (l.take k) + BB ^ k * (l.getD k 0 + BB * val (l.drop (k + 1))) := by
 have e : l = l.take k ++ (l.getD k 0 :: l.drop (k + 1)) := by
  conv => lhs; rw [← List.take_append_drop k l, List.drop_eq_getElem_cons hk]
  simp [hk]
 conv => lhs; rw [e, val_append]
 simp only [val, List.length_take, Nat.min_eq_left (Nat.le_of_lt hk)]
theorem limbs_take {l : List Nat} (h : Limbs l) (k : Nat) : Limbs (l.take k) := fun x hx => h x (List.mem_of_mem_take hx)
theorem val_lt_of_top {l m : List Nat} {k : Nat} (hk : k < l.length) (hm : k < m.length) (hl : Limbs l) (hd : l.drop (k + 1) = m.drop (k + 1)) (h : l.getD k 0 < m.getD k 0) : val l < val m := by
 rw [val_split hk, val_split hm, hd]
 have h1 := val_lt (limbs_take hl k)
 rw [List.length_take, Nat.min_eq_left (Nat.le_of_lt hk)] at h1
 have h2 : BB ^ k * (l.getD k 0 + BB * val (m.drop (k + 1)) + 1) ≤ BB ^ k * (m.getD k 0 + BB * val (m.drop (k + 1))) := Nat.mul_le_mul_left _ (by omega)
 rw [Nat.mul_add _ _ 1] at h2
 omega
theorem val_lt_of_len {l m : List Nat} (hl : Limbs l) (nm : Nrm m) (h : l.length < m.length) : val l < val m := by
 have h1 := val_lt hl
 have h2 := nrm_val_pos nm (by intro e; subst e; simp at h)
 have h3 : BB ^ l.length ≤ BB ^ (m.length - 1) := Nat.pow_le_pow_right BB_pos (by omega)
 omega
theorem drop_step {l m : List Nat} {k : Nat} (hk : k < l.length) (hm : k < m.length) (hd : l.drop (k + 1) = m.drop (k + 1)) (h : l.getD k 0 = m.getD k 0) : l.drop k = m.drop k := by
 rw [List.drop_eq_getElem_cons hk, List.drop_eq_getElem_cons hm, hd]
 simp [hk, hm] at h
 rw [h]
theorem val_nil_iff {l : List Nat} (hn : Nrm l) : val l = 0 ↔ l = [] := by
 constructor
 · intro h
   by_cases h0 : l = []
   · exact h0
   · have := nrm_val_pos hn h0
     have : 0 < BB ^ (l.length - 1) := Nat.pow_pos BB_pos
     omega
 · rintro rfl; rfl
end Go.Proofs.YtbmaffijncapiaaGreatDoor.NumR
namespace Go.Proofs.YtbmaffijncapiaaGreatDoor
open Go.ChangeShapes Go.WideShapes Go.ChangeAt Go.RowKit

theorem ret_int {k : IntKind} {a b : Int} (h : a = b) : Ending.returned (.int k a) = Ending.returned (.int k b) := by rw [h]
theorem bthen {a W w1 : World} (h : Below a.heap.size a W) (k : Below W.heap.size W w1) : Below a.heap.size a w1 := h.trans (k.mono h.size)
theorem bal {a W : World} (h : Below a.heap.size a W) (o : Obj) : Below a.heap.size a (W.alloc o) := h.alloc h.size o
theorem bset {a W : World} (h : Below a.heap.size a W) {p : Addr} (hp : a.heap.size ≤ p.block) (u : Value) : Below a.heap.size a (W.setCell p u) := h.setCell hp u
theorem bcell {W w1 : World} (hb : Below W.heap.size W w1) : (∀ b o, b < W.heap.size → w1.cell? ⟨b, o, none⟩ = W.cell? ⟨b, o, none⟩) ∧ (∀ b o, b < W.heap.size → w1.frozen? ⟨b, o, none⟩ = W.frozen? ⟨b, o, none⟩) :=
 ⟨fun b o h => hb.cell (p := ⟨b, o, none⟩) h, fun b o h => hb.frozen (p := ⟨b, o, none⟩) h⟩
theorem cell_lt {W : World} {b o : Nat} {s : Option Nat} {v : Value} (h : W.cell? ⟨b, o, s⟩ = some v) : b < W.heap.size := by
 apply Nat.lt_of_not_le; intro hl
 have : W.heap[b]? = none := by simp [hl]
 simp [World.cell?, this] at h
theorem bkeep {W w1 : World} (hb : Below W.heap.size W w1) {p : Addr} {v : Value} (h : W.cell? p = some v) : w1.cell? p = some v := by
 have hp : p.block < W.heap.size := by
  apply Nat.lt_of_not_le; intro hl
  have : W.heap[p.block]? = none := by simp [hl]
  simp [World.cell?, this] at h
 rw [hb.cell hp]; exact h
theorem bkeepf {W w1 : World} (hb : Below W.heap.size W w1) {p : Addr} {v : Value} (h : W.cell? p = some v) (hf : W.frozen? p = false) : w1.frozen? p = false := by
 have hp : p.block < W.heap.size := by
  apply Nat.lt_of_not_le; intro hl
  have : W.heap[p.block]? = none := by simp [hl]
  simp [World.cell?, this] at h
 rw [hb.frozen hp]; exact hf
/-! a cell, behind a step of the world -/
theorem cell_alloc {w : World} {a : Addr} {v : Value} (h : w.cell? a = some v) (o : Obj) : (w.alloc o).cell? a = some v := by
 obtain ⟨b, o', s⟩ := a
 rw [World.cell?_alloc_lt (h := cell_lt h)]; exact h
theorem cell_drew {w : World} {a : Addr} {v : Value} (h : w.cell? a = some v) : w.drew.cell? a = some v := h
theorem cell_drewN {w : World} {a : Addr} {v : Value} (h : w.cell? a = some v) (n : Nat) : (w.drewN n).cell? a = some v := h
theorem cell_new {w : World} {c : Array Value} {t : TypeId} {b i : Nat} {v : Value} (hb : b = w.heap.size) (h : c[i]? = some v) : (w.alloc (.cells c t)).cell? ⟨b, i, none⟩ = some v := by
 rw [World.cell?_alloc_at (hn := hb)]; exact h
theorem cell_far {w : World} {a p : Addr} {v : Value} (h : w.cell? a = some v) (hne : p ≠ a) (u : Value) : (w.setCell p u).cell? a = some v := by
 rw [World.cell?_setCell_other (h := hne)]; exact h
theorem cell_here {w : World} {a : Addr} {v : Value} (h : w.cell? a = some v) (u : Value) : (w.setCell a u).cell? a = some u := by rw [World.cell?_setCell_same (h := h)]
theorem cells_new (w : World) (C : List Value) (t : TypeId) : ∀ j u, C[j]? = some u → (w.alloc (.cells C.toArray t)).cell? ((⟨w.heap.size, 0, none⟩ : Addr).add j) = some u := by
 intro j u h
 have e : (⟨w.heap.size, 0, none⟩ : Addr).add j = ⟨w.heap.size, j, none⟩ := by
  unfold Addr.add; split
  · subst_vars; rfl
  · simp
 rw [e]
 exact cell_new rfl (by simpa using h)
theorem own_below {B : Nat} {e : TypeId} {size : Nat} {w0 wr w' : World} {v : Value} {n : Nat} {xs : List Value} (h : wr.ownsRow B e size v n xs) (hb : Below wr.heap.size wr w') : w'.ownsRow B e size v n xs := by
 obtain ⟨h1, h2⟩ := h
 refine ⟨h1, ?_⟩
 rcases h2 with h2 | ⟨g, cap, cur, hv, hg, hh, r⟩
 · exact .inl h2
 · exact .inr ⟨g, cap, cur, hv, hg, by rw [hb.block g (Array.getElem?_eq_some_iff.1 hh).1]; exact hh, r⟩
theorem below_append {w0 wr W w1 : World} {e : TypeId} {size : Nat} {v : Value} {n : Nat} {xs : List Value} (hB : Below w0.heap.size w0 W) (hown : W.ownsRow w0.heap.size e size v n xs) (hg : W.grownBy w1 v.ownBlock) : Below w0.heap.size w0 w1 :=
 hB.grown hg hB.size (fun k hk => (hown.lt k hk).1)

/-! ### A region that draws its order, whose calls only make memory and answer what their arguments say: one walk in the text's order -/
structure Grows (w : World) where
 world : World
 below : Below w.heap.size w world
instance (w : World) : Nonempty (Grows w) := ⟨⟨w, Below.refl _ _⟩⟩
def grow (w : World) (s : Grows w) : World := s.world
theorem wp_name {P : Program} {c : Code} {Q : Exit → Act → World → Prop} {a : Act} {w : World} (h : ∀ W, W = w → c.wp P Q a W) : c.wp P Q a w := h w rfl
theorem wp_region_grow {P : Program} {id : Nat} {Q : Exit → Act → World → Prop} {a : Act} {w : World} {l : List Oper} (hm : P.follows .mixedOrders = true) (hB : Region.lexB .any l.toArray = true)
 (h : wpQuiet P l.toArray (fun w' => ∃ s, w' = grow w s) (fun a' => ∀ w', Below w.heap.size w w' → Q .normal a' w') l a) : (Code.region id l.toArray true).wp P Q a w := by
 have e : (fun a' => ∀ w', Below w.heap.size w w' → Q .normal a' w') = (fun a' => ∀ w', (∃ s, w' = grow w s) → Q .normal a' w') := by
  funext a'
  exact propext ⟨fun h w' ⟨s, hs⟩ => h w' (hs ▸ s.below), fun h w' hb => h w' ⟨⟨w', hb⟩, rfl⟩⟩
 rw [e] at h
 exact wp_region_quiet (C := fun w' => ∃ s, w' = grow w s) hm hB ⟨⟨w.drew, (Below.refl _ _).drew⟩, rfl⟩ (by simpa using h)
theorem grow_of {P : Program} {f : FuncId} {args : Array Value} {w : World} {s : Grows w} {v : Value}
 (h : Calls P f args (grow w s) fun e w' => e = .returned v ∧ Below (grow w s).heap.size (grow w s) w') : Calls P f args (grow w s) fun e w'' => e = .returned v ∧ ∃ s', w'' = grow w s' :=
 h.mono fun _ w' ⟨he, hb⟩ => ⟨he, ⟨w', s.below.trans (hb.mono s.below.size)⟩, rfl⟩
theorem bkc {W w1 : World} {p : Addr} {v : Value} (hb : Below W.heap.size W w1) (h : W.cell? p = some v := by first | assumption | exact cell_new (by with_reducible first | rfl | (simp; done) | (simp; omega)) rfl | (repeat (first | assumption | exact cell_new (by with_reducible first | rfl | (simp; done) | (simp; omega)) rfl | refine cell_alloc ?_ _ | refine cell_drew ?_ | refine cell_drewN ?_ _ | refine cell_far ?_ (by simp) _ | (refine cell_far ?_ (by simp <;> omega) _))) | simp [go_sem, *]) : w1.cell? p = some v := bkeep hb h
theorem bkcf {W w1 : World} {p : Addr} {v : Value} (hb : Below W.heap.size W w1) (h : W.cell? p = some v := by first | assumption | exact cell_new (by with_reducible first | rfl | (simp; done) | (simp; omega)) rfl | (repeat (first | assumption | exact cell_new (by with_reducible first | rfl | (simp; done) | (simp; omega)) rfl | refine cell_alloc ?_ _ | refine cell_drew ?_ | refine cell_drewN ?_ _ | refine cell_far ?_ (by simp) _ | (refine cell_far ?_ (by simp <;> omega) _))) | simp [go_sem, *]) (hf : W.frozen? p = false := by first | assumption | (simp <;> assumption) | simp [go_sem, *]) : w1.frozen? p = false := bkeepf hb h hf
theorem bkq {W0 W w1 : World} {p : Addr} {v : Value} (hb : Below W.heap.size W w1) (h0 : W0.cell? p = some v) (h : W.cell? p = some v := by first | assumption | exact cell_new (by with_reducible first | rfl | (simp; done) | (simp; omega)) rfl | (repeat (first | assumption | exact cell_new (by with_reducible first | rfl | (simp; done) | (simp; omega)) rfl | refine cell_alloc ?_ _ | refine cell_drew ?_ | refine cell_drewN ?_ _ | refine cell_far ?_ (by simp) _ | (refine cell_far ?_ (by simp <;> omega) _))) | simp [go_sem, *]) : w1.cell? p = some v := bkeep hb h
theorem bkn {W w1 : World} {p : Addr} {v : Value} (e : w1 = W) (h : W.cell? p = some v := by first | assumption | exact cell_new (by with_reducible first | rfl | (simp; done) | (simp; omega)) rfl | (repeat (first | assumption | exact cell_new (by with_reducible first | rfl | (simp; done) | (simp; omega)) rfl | refine cell_alloc ?_ _ | refine cell_drew ?_ | refine cell_drewN ?_ _ | refine cell_far ?_ (by simp) _ | (refine cell_far ?_ (by simp <;> omega) _))) | simp [go_sem, *]) : w1.cell? p = some v := by rw [e]; exact h
theorem hZ {p : Prop} (h : p) : Hid p := Lib.hid h
abbrev st4 (w : World) (b : Nat) (u0 u1 u2 u3 : Value) : World := (((w.setCell ⟨b, 0, none⟩ u0).setCell ⟨b, 1, none⟩ u1).setCell ⟨b, 2, none⟩ u2).setCell ⟨b, 3, none⟩ u3
theorem bkqf {W0 W1 W w1 : World} {p : Addr} {v : Value} (hb : Below W.heap.size W w1) (h0 : W0.cell? p = some v) (f0 : W1.frozen? p = false) (h : W.cell? p = some v := by first | assumption | exact cell_new (by with_reducible first | rfl | (simp; done) | (simp; omega)) rfl | (repeat (first | assumption | exact cell_new (by with_reducible first | rfl | (simp; done) | (simp; omega)) rfl | refine cell_alloc ?_ _ | refine cell_drew ?_ | refine cell_drewN ?_ _ | refine cell_far ?_ (by simp) _ | (refine cell_far ?_ (by simp <;> omega) _))) | simp [go_sem, *]) (hf : W.frozen? p = false := by first | assumption | (simp <;> assumption) | simp [go_sem, *]) : w1.frozen? p = false := bkeepf hb h hf
theorem bzR (n : Nat) (w : World) : Below n w w := Below.refl n w
theorem bzD {n : Nat} {w w1 : World} (h : Below n w w1) : Below n w w1.drew := h.drew
theorem bzN {n : Nat} {w w1 : World} (h : Below n w w1) {k : Nat} : Below n w (w1.drewN k) := below_drewN h k
theorem bzS {w w1 : World} (h : Below w.heap.size w w1) {p : Addr} {v : Value} (hp : w.heap.size ≤ p.block := by simp <;> omega) : Below w.heap.size w (w1.setCell p v) := bset h hp v
theorem bzA {w w1 : World} (h : Below w.heap.size w w1) {o : Obj} : Below w.heap.size w (w1.alloc o) := bal h o
theorem bZ {B : Nat} {a b : World} (h : Below B a b := by repeat (first | exact Below.refl _ _ | assumption | refine Below.drew ?_ | refine below_drewN ?_ _ | refine bset ?_ (by simp <;> omega) _ | refine bal ?_ _)) : Below B a b := h
end Go.Proofs.YtbmaffijncapiaaGreatDoor
namespace Go.Proofs.YtbmaffijncapiaaGreatDoor
open Num
open Go.ChangeShapes Go.WideShapes Go.ChangeAt Go.RowKit

def typOf (w : World) (b : Nat) : Option TypeId := match w.heap[b]? with
 | some (.cells _ t _) => some t
 | _ => none
theorem typ_of_block {w w' : World} {b : Nat} (h : w'.heap[b]? = w.heap[b]?) : typOf w' b = typOf w b := by unfold typOf; rw [h]
theorem typ_lt {w : World} {b : Nat} {t : TypeId} (h : typOf w b = some t) : b < w.heap.size := by
 apply Nat.lt_of_not_le; intro hl
 have : w.heap[b]? = none := by simp [hl]
 simp [typOf, this] at h
theorem typ_keep {w w' : World} {b : Nat} {t : TypeId} (h : typOf w b = some t) (hb : Below w.heap.size w w') : typOf w' b = some t := by
 rw [typ_of_block (w := w) (hb.block b (typ_lt h))]; exact h
theorem typ_set (w : World) (p : Addr) (v : Value) (b : Nat) : typOf (w.setCell p v) b = typOf w b := by
 by_cases e : b = p.block
 · subst e
   unfold typOf World.setCell
   simp only [Array.getElem?_modify, if_true]
   cases w.heap[p.block]? with
   | none => rfl
   | some o => cases o <;> rfl
 · exact typ_of_block (Below.heap_setCell w p v b e)
structure At32 (w : World) (b off : Nat) (l : List Nat) : Prop where
 cell : ∀ k, k < l.length → w.cell? ⟨b, off + k, none⟩ = some (.int .u32 (l.getD k 0 : Nat))
 ty : typOf w b = some 177
instance {w : World} {b off : Nat} {l : List Nat} : CoeFun (At32 w b off l) (fun _ => ∀ k, k < l.length → w.cell? ⟨b, off + k, none⟩ = some (.int .u32 (l.getD k 0 : Nat))) := ⟨At32.cell⟩
def C32 (w : World) (a : Option Addr) (l : List Nat) : Prop := l = [] ∨ ∃ b off, a = some ⟨b, off, none⟩ ∧ At32 w b off l
def U32 (w : World) (a : Option Addr) (cap : Nat) (l : List Nat) : Prop := l.length ≤ cap ∧ cap ≤ maxLen ∧ Limbs l ∧ C32 w a l
theorem C32.keep {w w' : World} {a : Option Addr} {l : List Nat} (h : C32 w a l) (hb : Below w.heap.size w w') : C32 w' a l := by
 rcases h with h | ⟨b, off, h1, h2⟩
 · exact .inl h
 · exact .inr ⟨b, off, h1, fun k hk => bkeep hb (h2 k hk), typ_keep h2.ty hb⟩
theorem U32.keep {w w' : World} {a : Option Addr} {cap : Nat} {l : List Nat} (h : U32 w a cap l) (hb : Below w.heap.size w w') : U32 w' a cap l := ⟨h.1, h.2.1, h.2.2.1, h.2.2.2.keep hb⟩
theorem C32.take {w : World} {a : Option Addr} {l m : List Nat} (h : C32 w a l) (hp : m <+: l) : C32 w a m := by
 rcases h with rfl | ⟨b, off, h1, h2⟩
 · exact .inl (List.prefix_nil.1 hp)
 · refine .inr ⟨b, off, h1, fun k hk => ?_, h2.ty⟩
   obtain ⟨t, rfl⟩ := hp
   rw [h2 k (by simp; omega)]
   simp [hk, List.getElem?_append]
namespace Num
theorem trim_take_zero {l : List Nat} {k : Nat} (hk : k < l.length) (h0 : l.getD k 0 = 0) : trimL (l.take (k + 1)) = trimL (l.take k) := by
 rw [List.take_succ_eq_append_getElem hk]
 have : l[k] = 0 := by simpa [hk] using h0
 rw [this, trimL_append_zero]
theorem trim_take_pos {l : List Nat} {k : Nat} (hk : k < l.length) (h0 : l.getD k 0 ≠ 0) : trimL (l.take (k + 1)) = l.take (k + 1) := by
 rw [List.take_succ_eq_append_getElem hk]
 have : l[k] ≠ 0 := by simpa [hk] using h0
 rw [trimL_append_pos _ _ this]
end Num

theorem trim_c (a : Option Addr) (cap : Nat) (l : List Nat) (w : World) (h : U32 w a cap l) :
 Calls Tryz.prog 210 #[.slice a l.length cap] w fun e w' => e = .returned (.slice a (trimL l).length (trimL l).length) ∧ w = w' := by
 obtain ⟨hc, hm, hl, hcs⟩ := h
 unfold maxLen at hm
 go_enter Tryz.func210, Tryz.ntmps210
 go_wp2
 go_loop [3] (fun x => ∃ k : Nat, k ≤ l.length ∧ x = .int .i64 k ∧ trimL (l.take k) = trimL l) (fun x => (intOf x).toNat)
 case atStart => exact ⟨l.length, Nat.le_refl _, rfl, by rw [List.take_length]⟩
 case round =>
  obtain ⟨k, hk, rfl, ht⟩ := hrel
  have HT := hZ ht
  clear ht
  cases k with
  | zero =>
   have hz : (trimL l).length = 0 := by have := HT.out; rw [List.take_zero] at this; rw [← this]; rfl
   have HZ := hZ hz
   clear hz
   go_wp2
   go_ret
   exact ⟨by rw [HZ.out]; rfl, rfl⟩
  | succ j =>
   rcases hcs with rfl | ⟨b, off, rfl, hcell⟩
   · simp at hk
   have hj := hcell j (by omega)
   by_cases h0 : l.getD j 0 = 0
   · have HN := hZ (trim_take_zero (by omega : j < l.length) h0)
     rw [h0] at hj
     go_wp2
     exact ⟨⟨j, by omega, rfl, HN.out.symm.trans HT.out⟩, by simp [intOf] <;> omega⟩
   · have HN := hZ (trim_take_pos (by omega : j < l.length) h0)
     generalize hx : l.getD j 0 = x at *
     have hx0 : ((x : Int) == 0) = false := by simp; omega
     have HL := hZ (show (trimL l).length = j + 1 by rw [← HT.out, HN.out]; simp; omega)
     go_wp2
     go_ret
     exact ⟨by rw [HL.out]; rfl, rfl⟩

theorem U32.trim {w : World} {a : Option Addr} {cap : Nat} {l : List Nat} (h : U32 w a cap l) : U32 w a (trimL l).length (trimL l) :=
 ⟨Nat.le_refl _, Nat.le_trans (trim_len l) (Nat.le_trans h.1 h.2.1), trim_limbs h.2.2.1, h.2.2.2.take (trim_prefix l)⟩
theorem info32 : (Tryz.prog.info? 177).map (fun i => (i.zero, i.size, i.bytes)) = some (some (.int .u32 0), 1, 4) := by kernel_rfl
def cel (l : List Nat) : List Value := l.map fun x : Nat => .int .u32 (x : Int)
theorem cel_len (l : List Nat) : (cel l).length = l.length := by simp [cel]
theorem cel_get (l : List Nat) (k : Nat) (h : k < l.length) : (cel l)[k]? = some (.int .u32 (l.getD k 0 : Nat)) := by simp [cel, h]
theorem cel_one (l : List Nat) : ∀ v ∈ cel l, v.oneCell' = true := by
 intro v hv; simp only [cel, List.mem_map] at hv; obtain ⟨x, _, rfl⟩ := hv; rfl
def Blk (w : World) (g : Nat) (l : List Nat) : Prop := w.heap[g]? = some (.cells (cel l).toArray 177 (0, 0))
theorem Blk.cell {w : World} {g : Nat} {l : List Nat} (h : Blk w g l) (k : Nat) (hk : k < l.length) : w.cell? ⟨g, k, none⟩ = some (.int .u32 (l.getD k 0 : Nat)) := by
 have := cel_get l k hk
 unfold World.cell?
 rw [show w.heap[(⟨g, k, none⟩ : Addr).block]? = _ from h]
 simpa using this
theorem Blk.frozen {w : World} {g : Nat} {l : List Nat} (h : Blk w g l) (k : Nat) : w.frozen? ⟨g, k, none⟩ = false := by
 unfold World.frozen?
 rw [show w.heap[(⟨g, k, none⟩ : Addr).block]? = _ from h]
 simp
theorem Blk.lt {w : World} {g : Nat} {l : List Nat} (h : Blk w g l) : g < w.heap.size := (Array.getElem?_eq_some_iff.1 h).1
theorem Blk.keep {w w' : World} {g : Nat} {l : List Nat} (h : Blk w g l) (hb : Below w.heap.size w w') : Blk w' g l := (hb.block g h.lt).trans h
theorem Blk.alloc {w : World} {g : Nat} {l : List Nat} (h : Blk w g l) (o : Obj) : Blk (w.alloc o) g l := (Below.heap_alloc w o g h.lt).trans h
theorem Blk.set {w : World} {g : Nat} {l : List Nat} (h : Blk w g l) (k x : Nat) : Blk (w.setCell ⟨g, k, none⟩ (.int .u32 (x : Int))) g (l.set k x) := by
 unfold Blk World.setCell
 simp only [Array.getElem?_modify, if_true]
 rw [show w.heap[g]? = _ from h]
 simp [cel, List.map_set]
theorem Blk.far {w : World} {g : Nat} {l : List Nat} (h : Blk w g l) (p : Addr) (v : Value) (hp : g ≠ p.block) : Blk (w.setCell p v) g l := (Below.heap_setCell w p v g hp).trans h
theorem Blk.u32 {w : World} {g : Nat} {l : List Nat} (h : Blk w g l) (hl : Limbs l) (hm : l.length ≤ maxLen) : U32 w (some ⟨g, 0, none⟩) l.length l :=
 ⟨Nat.le_refl _, hm, hl, .inr ⟨g, 0, rfl, fun k hk => by simpa using h.cell k hk, by unfold typOf; rw [show w.heap[g]? = _ from h]⟩⟩
theorem mk32 (n : Nat) (hn : n ≤ 35184372088832) (w : World) : (Instr.makeSlice 48 (.int .i64 (n : Int)) (.int .i64 (n : Int))).run Tryz.prog w = .ok (.slice (some ⟨w.heap.size, 0, none⟩) n n) (w.alloc (.cells (cel (List.replicate n 0)).toArray 177)) := by
 obtain ⟨i0, hi, hz0, hz1, hz2⟩ := info_parts info32
 have e : madeCells (Value.int .u32 0).cells ((n : Int).toNat * 1) = (cel (List.replicate n 0)).toArray := by
  apply Array.ext
  · simp [size_madeCells, cel]
  · intro i h1 h2
    simp [madeCells, cel, Value.cells, Nat.mod_one]
 rw [run_make w _ _ i0 _ Tryz.underlying48 hi hz0 .i64 .i64 n n (by omega) (by omega) (by rw [hz2]; omega) (by omega), hz1, e]
 rfl
theorem blk_new (w : World) (l : List Nat) : Blk (w.alloc (.cells (cel l).toArray 177)) w.heap.size l := by
 unfold Blk; exact (MapKept.heap_alloc w _).1
theorem blk_at {w : World} {g : Nat} {l : List Nat} (hg : g = w.heap.size) : Blk (w.alloc (.cells (cel l).toArray 177)) g l := by subst hg; exact blk_new w l

theorem limbNorm_c (a : Option Addr) (cap : Nat) (l : List Nat) (w : World) (h : U32 w a cap l) (hlen : l.length ≤ 1099511627776) :
 Calls Tryz.prog 213 #[.slice a l.length cap] w fun e w' => (∃ a', e = .returned (.slice a' (trimL l).length (trimL l).length) ∧ U32 w' a' (trimL l).length (trimL l)) ∧ Below w.heap.size w w' := by
 have tc := fun w h => trim_c a cap l w h
 have h1 := h.trim
 have hlm := Nat.le_trans (trim_len l) hlen
 generalize trimL l = m at *
 go_enter Tryz.func213, Tryz.ntmps213
 go_wp2_with fail
 refine (tc _ h).mono ?_
 rintro e w1 ⟨rfl, rfl⟩
 clear tc
 have hmk := mk32 m.length (by omega)
 go_wp2_with (refine wpList_copy_splice (o := ⟨some 11, _, _, _, _, _⟩) rfl _ _ 48 48 rfl 177 Tryz.underlying48 (by kernel_rfl) (some ⟨w.heap.size, 0, none⟩) a m.length m.length m.length m.length rfl rfl w.heap.size 0 (cel (List.replicate m.length 0)) 177 (blk_new w _) (cel m) ?_ ?_ ?_ (cel_one m) w.heap.size w (bal (Below.refl _ _) _) (Nat.le_refl _) ?_)
 · rw [cel_len]; exact (Nat.min_self _).symm
 · intro h0
   rw [cel_len] at h0
   rcases h1.2.2.2 with hm0 | ⟨b, off, ha, hcell⟩
   · subst hm0; simp at h0
   · refine ⟨_, ha, fun j v hj => cell_alloc ?_ _⟩
     have hjl : j < m.length := by have := (List.getElem?_eq_some_iff.1 hj).1; rwa [cel_len] at this
     rw [cel_get m j hjl] at hj
     cases hj
     have := hcell j hjl
     unfold Addr.add
     split
     · subst_vars; simpa using this
     · exact this
 · simp [cel_len]
 · intro w' hw' hb'
   have hsp : splice (cel (List.replicate m.length 0)) 0 (cel m) = cel m := by simp [splice, cel]
   rw [hsp] at hw'
   have HW : Hid (Blk w' w.heap.size m) := hw'
   go_wp2
   go_ret
   exact ⟨⟨_, rfl, (HW.out : Blk w' w.heap.size m).u32 h1.2.2.1 h1.2.1⟩, hb'⟩
end Go.Proofs.YtbmaffijncapiaaGreatDoor
namespace Go.Proofs.YtbmaffijncapiaaGreatDoor
open Num
open Go.ChangeShapes Go.WideShapes Go.ChangeAt Go.RowKit
namespace Num
theorem val_set {l : List Nat} {k : Nat} (x : Nat) (hk : k < l.length) : val (l.set k x) + l.getD k 0 * BB ^ k = val l + x * BB ^ k := by
 induction l generalizing k with
 | nil => simp at hk
 | cons y l ih =>
  cases k with
  | zero => simp [val]; omega
  | succ k =>
   have := ih (k := k) (by simpa using hk)
   simp only [List.set_cons_succ, val, List.getD_cons_succ, Nat.pow_succ]
   have e := congrArg (BB * ·) this
   simp only [Nat.mul_add] at e
   have c1 : ∀ z : Nat, z * (BB ^ k * BB) = BB * (z * BB ^ k) := fun z => by rw [← Nat.mul_assoc, Nat.mul_comm]
   rw [c1, c1]
   omega
theorem limbs_set {l : List Nat} {k x : Nat} (h : Limbs l) (hx : x < BB) : Limbs (l.set k x) := by
 intro y hy
 rcases List.mem_or_eq_of_mem_set hy with h1 | rfl
 · exact h y h1
 · exact hx
theorem limb_get {l : List Nat} (h : Limbs l) (k : Nat) : l.getD k 0 < BB := by
 by_cases hk : k < l.length
 · simp only [List.getD_eq_getElem?_getD, List.getElem?_eq_getElem hk, Option.getD_some]; exact h _ (List.getElem_mem hk)
 · simp [hk, BB_pos, Nat.le_of_not_lt hk]
theorem val_take_succ {l : List Nat} {k : Nat} (hk : k < l.length) : val (l.take (k + 1)) = val (l.take k) + l.getD k 0 * BB ^ k := by
 rw [List.take_succ_eq_append_getElem hk, val_append]
 simp [val, hk, Nat.min_eq_left (Nat.le_of_lt hk), Nat.mul_comm]
theorem step_lt {x y o c : Nat} (hx : x < BB) (hy : y < BB) (ho : o < BB) (hc : c < BB) : c + (x * y + o) < BB * BB := by
 have h1 : x * y ≤ (BB - 1) * (BB - 1) := Nat.mul_le_mul (by omega) (by omega)
 have h2 : (BB - 1) * (BB - 1) + (BB - 1) + (BB - 1) + 1 = BB * BB := by unfold BB; rfl
 omega
theorem w64 {x : Nat} (h : x < BB * BB) : IntKind.u64.wrap (x : Int) = (x : Int) := by
 have e : BB * BB = 18446744073709551616 := by unfold BB; rfl
 rw [e] at h
 simp only [IntKind.wrap, IntKind.bits, IntKind.signed]
 simp
 omega
theorem BB_sq (x : Nat) (h : x < BB) : x < BB * BB := by
 have e : BB * BB = 18446744073709551616 := by unfold BB; rfl
 unfold BB at *
 omega
end Num

theorem limbMul_c (a b : Option Addr) (ca cb : Nat) (l m : List Nat) (w : World) (ha : U32 w a ca l) (hb : U32 w b cb m) (h1 : l.length ≤ 1099511627776) (h2 : m.length ≤ 1099511627776) :
 Calls Tryz.prog 140 #[.slice a l.length ca, .slice b m.length cb] w fun e w' => (∃ a' n L, e = .returned (.slice a' n n) ∧ n = L.length ∧ U32 w' a' n L ∧ Nrm L ∧ val L = val l * val m) ∧ Below w.heap.size w w' := by
 have hmk := mk32 (l.length + m.length) (by omega)
 have ec : ((l.length + m.length : Nat) : Int) = (l.length : Int) + (m.length : Int) := by omega
 rw [ec] at hmk
 clear ec
 go_enter Tryz.func140, Tryz.ntmps140
 go_wp2
 clear hmk
 go_loopw [19] (fun x wr => ∃ (i : Nat) (O : List Nat), i ≤ l.length ∧ x = .int .i64 i ∧ Blk wr w.heap.size O ∧ O.length = l.length + m.length ∧ Limbs O ∧ (∀ j, i + m.length ≤ j → O.getD j 0 = 0) ∧ val O = val (l.take i) * val m ∧ Below w.heap.size w wr) (fun x _ => l.length - (intOf x).toNat)
 case atStart => exact ⟨0, List.replicate (l.length + m.length) 0, by omega, rfl, blk_new w _, by simp, (fun y hy => by simp at hy; rw [hy.2]; exact BB_pos), (fun j hj => by simp [List.getElem?_replicate]; split <;> rfl), by simp [val, val_zeros], bal (Below.refl _ _) _⟩
 case round =>
  obtain ⟨i, O, hi, rfl, hO, hOl, hOL, hO0, hV, hB⟩ := hrel
  by_cases hlt : i < l.length
  · rcases ha.2.2.2 with hl0 | ⟨ba, oa, rfl, hca⟩
    · subst hl0; simp at hlt
    have c0 := bkeep hB (hca i hlt)
    have hx := limb_get ha.2.2.1 i
    have HX := hZ (val_take_succ hlt)
    generalize l.getD i 0 = x at *
    have HOl := hZ hOl
    have HV := hZ hV
    clear hOl hV
    go_wp2
    go_loopw [8, 26] (fun cv y wi => ∃ (k c : Nat) (Q : List Nat), k ≤ m.length ∧ y = .int .i64 k ∧ cv = .int .u64 c ∧ c < BB ∧ Blk wi w.heap.size Q ∧ Hid (Q.length = l.length + m.length) ∧ Limbs Q ∧ (∀ j, i + k ≤ j → Q.getD j 0 = O.getD j 0) ∧ Hid (val Q + c * BB ^ (i + k) = val O + x * val (m.take k) * BB ^ i) ∧ Below w.heap.size w wi) (fun _ y _ => m.length - (intOf y).toNat)
    case atStart => exact ⟨0, 0, O, by omega, rfl, rfl, BB_pos, hO, HOl, hOL, (fun _ _ => rfl), hZ (by simp [val]), hB⟩
    case round =>
     rename World => wi
     obtain ⟨k, c, Q, hk, rfl, rfl, hcB, hQ, hQl, hQL, hQO, hQV, hB⟩ := hrel
     by_cases hkm : k < m.length
     · rcases hb.2.2.2 with hm0 | ⟨bb, ob, rfl, hcb⟩
       · subst hm0; simp at hkm
       have d0 := bkeep hB (hcb k hkm)
       have hy := limb_get hb.2.2.1 k
       have HY := hZ (val_take_succ hkm)
       generalize m.getD k 0 = y at *
       have hql := hQl.out
       have q0 := hQ.cell (i + k) (by omega)
       have qf := hQ.frozen (i + k)
       have ho := limb_get hQL (i + k)
       have HSet := hZ (val_set (l := Q) (k := i + k) ((c + (x * y + Q.getD (i + k) 0)) % BB) (by omega))
       generalize hoo : Q.getD (i + k) 0 = o at *
       have HO' := hZ hoo
       clear hoo
       have hs := step_lt hx hy ho hcB
       have HS := hZ hs
       clear hs
       have hql' : (i : Int) + (k : Int) < (l.length : Int) + (m.length : Int) := by omega
       have e1 := w64 (BB_sq x hx)
       have e2 := w64 (BB_sq y hy)
       have e3 := w64 (BB_sq o ho)
       have e4 : IntKind.u64.wrap ((x : Int) * (y : Int)) = (x : Int) * (y : Int) := by rw [← Int.natCast_mul]; exact w64 (by have := HS.out; omega)
       have e5 : IntKind.u64.wrap ((x : Int) * (y : Int) + (o : Int)) = ((x * y + o : Nat) : Int) := by rw [← Int.natCast_mul, ← Int.natCast_add]; exact w64 (by have := HS.out; omega)
       have e6 : IntKind.u64.wrap ((c : Int) + ((x * y + o : Nat) : Int)) = ((c + (x * y + o) : Nat) : Int) := by rw [← Int.natCast_add]; exact w64 (by have := HS.out; omega)
       have HT := hZ (Nat.div_add_mod (c + (x * y + o)) BB)
       generalize hq : x * y + o = q at e5 e6 HT HSet HS
       generalize ht : c + q = t at e6 HT HSet HS
       have HTT := hZ ht
       have HQQ := hZ hq
       clear ht hq
       have qb := hQ.set (i + k) (t % BB)
       have ql := limbs_set hQL (k := i + k) (Nat.mod_lt t BB_pos)
       have eqb : ((t % BB : Nat) : Int) = (t : Int) % 4294967296 := by unfold BB; omega
       rw [eqb] at qb
       have bs := bset hB (p := ⟨w.heap.size, i + k, none⟩) (Nat.le_refl _) (.int .u32 ((t : Int) % 4294967296))
       go_wp2
       refine ⟨⟨k + 1, t / BB, Q.set (i + k) (t % BB), by omega, rfl, by unfold BB; simp, ?_, qb, hZ (by simpa using hql), ql, ?_, hZ ?_, bs⟩, by simp [intOf] <;> omega⟩
       · have := HS.out
         exact Nat.div_lt_of_lt_mul this
       · intro j hj
         rw [← hQO j (by omega)]
         simp [List.getD_eq_getElem?_getD, List.getElem?_set_ne (by omega : i + k ≠ j)]
       · have a1 := HSet.out
         have a2 := hQV.out
         have a3 := HT.out
         have a4 := HTT.out
         have a5 := HQQ.out
         rw [HY.out]
         have p1 : BB ^ (i + (k + 1)) = BB * BB ^ (i + k) := by rw [← Nat.add_assoc, Nat.pow_succ, Nat.mul_comm]
         have p2 : BB ^ (i + k) = BB ^ i * BB ^ k := Nat.pow_add _ _ _
         rw [p1]
         have a6 : t * BB ^ (i + k) = BB * (t / BB) * BB ^ (i + k) + t % BB * BB ^ (i + k) := by rw [← Nat.add_mul, a3]
         have a7 : t * BB ^ (i + k) = c * BB ^ (i + k) + x * y * BB ^ (i + k) + o * BB ^ (i + k) := by rw [← a4, ← a5]; simp only [Nat.add_mul]; omega
         have a8 : x * (val (List.take k m) + y * BB ^ k) * BB ^ i = x * val (List.take k m) * BB ^ i + x * y * BB ^ (i + k) := by
          rw [p2, Nat.mul_add, Nat.add_mul]; congr 1; ac_rfl
         have a9 : t / BB * (BB * BB ^ (i + k)) = BB * (t / BB) * BB ^ (i + k) := by ac_rfl
         rw [a8, a9]
         omega
     · obtain rfl : k = m.length := by omega
       have hql := hQl.out
       have HE := hZ ((hQO (i + m.length) (by omega)).trans (hO0 (i + m.length) (by omega)))
       have qf := hQ.frozen (i + m.length)
       have HSet := hZ (val_set (l := Q) (k := i + m.length) c (by omega))
       have q0 := hQ.cell (i + m.length) (by omega)
       have qb := hQ.set (i + m.length) c
       have ql := limbs_set hQL (k := i + m.length) hcB
       have ec : (c : Int) % 4294967296 = c := by unfold BB at hcB; omega
       have hql' : (i : Int) + (m.length : Int) < (l.length : Int) + (m.length : Int) := by omega
       have bs := bset hB (p := ⟨w.heap.size, i + m.length, none⟩) (Nat.le_refl _) (.int .u32 (c : Int))
       go_wp2
       refine ⟨⟨i + 1, Q.set (i + m.length) c, by omega, rfl, qb, by simpa using hql, ql, ?_, ?_, bs⟩, by simp [intOf] <;> omega⟩
       · intro j hj
         have e1 := hQO j (by omega)
         have e2 := hO0 j (by omega)
         refine Eq.trans ?_ (e1.trans e2)
         simp [List.getD_eq_getElem?_getD, List.getElem?_set_ne (by omega : i + m.length ≠ j)]
       · have a1 := HSet.out
         have a2 := hQV.out
         have a3 := HE.out
         have a4 := HV.out
         rw [HX.out, Nat.add_mul, ← a4]
         rw [a3] at a1
         rw [List.take_length] at a2
         have a5 : x * BB ^ i * val m = x * val m * BB ^ i := by ac_rfl
         rw [a5]
         omega
  · obtain rfl : i = l.length := by omega
    have hu := hO.u32 hOL (by unfold maxLen; omega)
    have tc := trim_c _ _ _ _ hu
    have HT := hZ (val_trim O)
    have HN := trim_nrm O
    have hu2 := hu.trim
    generalize trimL O = T at *
    rw [hOl] at tc
    clear hOl
    go_wp2_with fail
    refine tc.mono ?_
    rintro e w1 ⟨rfl, rfl⟩
    clear tc
    go_wp2
    go_ret
    exact ⟨⟨_, _, T, rfl, rfl, hu2, HN, by rw [HT.out, hV, List.take_length]⟩, hB⟩
end Go.Proofs.YtbmaffijncapiaaGreatDoor
namespace Go.Proofs.YtbmaffijncapiaaGreatDoor
open Num
open Go.ChangeShapes Go.WideShapes Go.ChangeAt Go.RowKit
namespace Num
def cmpN (x y : Nat) : Int := if x < y then -1 else if x = y then 0 else 1
theorem cmpN_lt {x y : Nat} (h : x < y) : cmpN x y = -1 := by unfold cmpN; rw [if_pos h]
theorem cmpN_eq {x y : Nat} (h : x = y) : cmpN x y = 0 := by unfold cmpN; rw [if_neg (by omega), if_pos h]
theorem cmpN_gt {x y : Nat} (h : y < x) : cmpN x y = 1 := by unfold cmpN; rw [if_neg (by omega), if_neg (by omega)]
theorem val_split {l : List Nat} {k : Nat} (hk : k < l.length) : val l = val (l.take k) + BB ^ k * (l.getD k 0 + BB * val (l.drop (k + 1))) := by
 have e : l = l.take k ++ (l.getD k 0 :: l.drop (k + 1)) := by
  conv => lhs; rw [← List.take_append_drop k l, List.drop_eq_getElem_cons hk]
  simp [hk]
 conv => lhs; rw [e, val_append]
 simp only [val, List.length_take, Nat.min_eq_left (Nat.le_of_lt hk)]
theorem limbs_take {l : List Nat} (h : Limbs l) (k : Nat) : Limbs (l.take k) := fun x hx => h x (List.mem_of_mem_take hx)
theorem val_lt_of_top {l m : List Nat} {k : Nat} (hk : k < l.length) (hm : k < m.length) (hl : Limbs l) (hd : l.drop (k + 1) = m.drop (k + 1)) (h : l.getD k 0 < m.getD k 0) : val l < val m := by
 rw [val_split hk, val_split hm, hd]
 have h1 := val_lt (limbs_take hl k)
 rw [List.length_take, Nat.min_eq_left (Nat.le_of_lt hk)] at h1
 have h2 : BB ^ k * (l.getD k 0 + BB * val (m.drop (k + 1)) + 1) ≤ BB ^ k * (m.getD k 0 + BB * val (m.drop (k + 1))) := Nat.mul_le_mul_left _ (by omega)
 rw [Nat.mul_add _ _ 1] at h2
 omega
theorem val_lt_of_len {l m : List Nat} (hl : Limbs l) (nm : Nrm m) (h : l.length < m.length) : val l < val m := by
 have h1 := val_lt hl
 have h2 := nrm_val_pos nm (by intro e; subst e; simp at h)
 have h3 : BB ^ l.length ≤ BB ^ (m.length - 1) := Nat.pow_le_pow_right BB_pos (by omega)
 omega
theorem drop_step {l m : List Nat} {k : Nat} (hk : k < l.length) (hm : k < m.length) (hd : l.drop (k + 1) = m.drop (k + 1)) (h : l.getD k 0 = m.getD k 0) : l.drop k = m.drop k := by
 rw [List.drop_eq_getElem_cons hk, List.drop_eq_getElem_cons hm, hd]
 simp [hk, hm] at h
 rw [h]
end Num

theorem limbCmp_c (a b : Option Addr) (ca cb : Nat) (l m : List Nat) (w : World) (ha : U32 w a ca l) (hb : U32 w b cb m) :
 Calls Tryz.prog 124 #[.slice a l.length ca, .slice b m.length cb] w fun e w' => e = .returned (.int .i64 (cmpN (val l) (val m))) ∧ Below w.heap.size w w' := by
 have tca := trim_c a ca l w ha
 have tcb := trim_c b cb m w hb
 have ha2 := ha.trim
 have hb2 := hb.trim
 have na := trim_nrm l
 have nb := trim_nrm m
 rw [← val_trim l, ← val_trim m]
 generalize trimL l = L at *
 generalize trimL m = M at *
 go_enter Tryz.func124, Tryz.ntmps124
 go_wp2_with fail
 refine tca.mono ?_
 rintro e w1 ⟨rfl, rfl⟩
 clear tca
 go_wp2_with fail
 refine tcb.mono ?_
 rintro e w1 ⟨rfl, rfl⟩
 clear tcb
 obtain ⟨_, hLm, hL, hLc⟩ := ha2
 obtain ⟨_, hMm, hM, hMc⟩ := hb2
 unfold maxLen at hLm hMm
 rcases Nat.lt_trichotomy L.length M.length with hlt | heq | hgt
 · go_wp2
   go_ret
   exact ⟨by rw [cmpN_lt (val_lt_of_len hL nb hlt)]; rfl, Below.refl _ _⟩
 · clear na nb
   have hc1 : ¬ (L.length < M.length) := by omega
   have hc2 : ¬ (M.length < L.length) := by omega
   have HQ := hZ heq
   clear heq
   generalize hM' : M.length = n at *
   have HM := hZ hM'
   clear hM'
   go_wp2
   go_loopw [5] (fun x wr => ∃ k : Nat, k ≤ n ∧ x = .int .i64 ((k : Int) - 1) ∧ L.drop k = M.drop k ∧ Below w.heap.size w wr) (fun x _ => (intOf x + 1).toNat)
   case atStart =>
    refine ⟨n, Nat.le_refl _, ?_, ?_, Below.refl _ _⟩
    · rw [HQ.out]
    · rw [List.drop_eq_nil_of_le (by have := HQ.out; omega), List.drop_eq_nil_of_le (by have := HM.out; omega)]
   case round =>
    obtain ⟨k, hk, rfl, hd, hB⟩ := hrel
    have HD := hZ hd
    clear hd
    cases k with
    | zero =>
     go_wp2
     go_ret
     have e : L = M := by simpa using HD.out
     exact ⟨by rw [cmpN_eq (by rw [e])]; rfl, hB⟩
    | succ j =>
     have hjL : j < L.length := by have := HQ.out; omega
     have hjM : j < M.length := by have := HM.out; omega
     rcases hLc with rfl | ⟨ba, oa, rfl, hca⟩
     · simp at hjL
     rcases hMc with rfl | ⟨bb, ob, rfl, hcb⟩
     · simp at hjM
     have cj := bkeep hB (hca j hjL)
     have dj := bkeep hB (hcb j hjM)
     have HLt := hZ (fun h => val_lt_of_top hjL hjM hL HD.out h)
     have HGt := hZ (fun h => val_lt_of_top hjM hjL hM HD.out.symm h)
     have HEq := hZ (fun h => drop_step hjL hjM HD.out h)
     have hjn : (j : Int) < (L.length : Int) := by omega
     generalize L.getD j 0 = x at *
     generalize M.getD j 0 = y at *
     rcases Nat.lt_trichotomy x y with h1 | h1 | h1
     · have h1' : (x : Int) < (y : Int) := by omega
       go_wp2
       go_quiet (fail)
       go_wp2
       go_ret
       exact ⟨by rw [cmpN_lt (HLt.out h1)]; rfl, by repeat (first | exact hB | refine below_drewN ?_ _)⟩
     · subst h1
       go_wp2
       go_quiet (fail)
       go_wp2
       go_quiet (fail)
       go_wp2
       exact ⟨⟨j, by omega, rfl, HEq.out (by trivial), by repeat (first | exact hB | refine below_drewN ?_ _)⟩, by simp [intOf] <;> omega⟩
     · have h1' : ¬ ((x : Int) < (y : Int)) := by omega
       have h1'' : ((y : Int) < (x : Int)) := by omega
       go_wp2
       go_quiet (fail)
       go_wp2
       go_quiet (fail)
       go_wp2
       go_ret
       exact ⟨by rw [cmpN_gt (HGt.out h1)]; rfl, by repeat (first | exact hB | refine below_drewN ?_ _)⟩
 · have hc1 : ¬ (L.length < M.length) := by omega
   go_wp2
   go_ret
   exact ⟨by rw [cmpN_gt (val_lt_of_len hM na hgt)]; rfl, Below.refl _ _⟩
end Go.Proofs.YtbmaffijncapiaaGreatDoor
namespace Go.Proofs.YtbmaffijncapiaaGreatDoor
open Num
namespace Num
def bitN (v : Nat) : Nat := if v = 0 then 0 else v.log2 + 1
theorem bitN_half {x : Nat} (h : x ≠ 0) : bitN x = 1 + bitN (x / 2) := by
 unfold bitN
 rw [if_neg h, Nat.log2_def]
 by_cases h2 : 2 ≤ x
 · rw [if_pos h2, if_neg (by omega)]; omega
 · rw [if_neg h2, if_pos (by omega)]
theorem bitLen_eq (x : Nat) (h : x < 2 ^ 64) : Lib.bitLen x = bitN x := by
 induction x using Nat.strongRecOn with
 | ind x ih =>
  by_cases h0 : x = 0
  · subst h0; rfl
  · rw [Lib.bitLen_half x h0 h, bitN_half h0, ih (x / 2) (by omega) (by omega)]
theorem BB_pow (n : Nat) : BB ^ n = 2 ^ (32 * n) := by
 rw [Nat.pow_mul]; rfl
theorem bitN_snoc {l : List Nat} {x : Nat} (hl : Limbs l) (hx : x ≠ 0) : bitN (val (l ++ [x])) = 32 * l.length + bitN x := by
 have h1 := val_lt hl
 rw [val_append]
 simp only [val, Nat.mul_zero, Nat.add_zero]
 rw [BB_pow] at *
 have hp : 0 < 2 ^ (32 * l.length) := Nat.pow_pos (by omega)
 have h2 : 2 ^ (32 * l.length) * 1 ≤ 2 ^ (32 * l.length) * x := Nat.mul_le_mul_left _ (by omega)
 unfold bitN
 rw [if_neg (by omega), if_neg hx]
 have e : (val l + 2 ^ (32 * l.length) * x).log2 = 32 * l.length + x.log2 := by
  rw [Nat.log2_eq_iff (by omega)]
  have k1 := Nat.log2_self_le hx
  have k2 := @Nat.lt_log2_self x
  constructor
  · rw [Nat.pow_add]
    have := Nat.mul_le_mul_left (2 ^ (32 * l.length)) k1
    omega
  · rw [Nat.add_assoc, Nat.pow_add]
    have := Nat.mul_le_mul_left (2 ^ (32 * l.length)) (show x + 1 ≤ 2 ^ (x.log2 + 1) from k2)
    rw [Nat.mul_add] at this
    omega
 omega
theorem bitN_nrm {l : List Nat} {k : Nat} (hl : Limbs l) (hn : Nrm l) (hk : l.length = k + 1) : bitN (val l) = 32 * k + bitN (l.getD k 0) := by
 obtain ⟨m, x, rfl⟩ : ∃ m x, l = m ++ [x] := ⟨l.dropLast, l.getLast (by intro e; subst e; simp at hk), (List.dropLast_concat_getLast _).symm⟩
 simp at hk
 have hx := hn (by simp)
 simp at hx
 rw [bitN_snoc (fun y hy => hl y (by simp [hy])) hx, hk]
 congr 2
 simp [← hk]
theorem val_nil_iff {l : List Nat} (hn : Nrm l) : val l = 0 ↔ l = [] := by
 constructor
 · intro h
   by_cases h0 : l = []
   · exact h0
   · have := nrm_val_pos hn h0
     have : 0 < BB ^ (l.length - 1) := Nat.pow_pos BB_pos
     omega
 · rintro rfl; rfl
end Num
end Go.Proofs.YtbmaffijncapiaaGreatDoor
namespace Go.Proofs.YtbmaffijncapiaaGreatDoor
open Num
open Go.ChangeShapes Go.WideShapes Go.ChangeAt Go.RowKit
namespace Num
def sg (neg : Bool) (n : Nat) : Int := if neg then -(n : Int) else n
theorem sg_zero (neg : Bool) : sg neg 0 = 0 := by cases neg <;> rfl
theorem sg_abs (neg : Bool) (n : Nat) : (sg neg n).natAbs = n := by cases neg <;> simp [sg]
theorem sg_mul (a b : Bool) (m n : Nat) : sg (a != b) (m * n) = sg a m * sg b n := by
 cases a <;> cases b <;> simp [sg, Int.mul_neg, Int.neg_mul]
def Bd (k : Nat) (z : Int) : Prop := z.natAbs < 2 ^ k
theorem Bd.mul {k m : Nat} {x y : Int} (hx : Bd k x) (hy : Bd m y) : Bd (k + m) (x * y) := by
 unfold Bd at *
 rw [Int.natAbs_mul, Nat.pow_add]
 exact Nat.mul_lt_mul'' hx hy
theorem Bd.mono {k m : Nat} {x : Int} (hx : Bd k x) (h : k ≤ m) : Bd m x := Nat.lt_of_lt_of_le hx (Nat.pow_le_pow_right (by omega) h)
theorem bd_len {l : List Nat} {k : Nat} (hn : Nrm l) (h : val l < 2 ^ k) (hk : k ≤ 17179869184) : l.length ≤ 536870913 := by
 by_cases h0 : l = []
 · subst h0; simp
 · have h1 := nrm_val_pos hn h0
   rw [BB_pow] at h1
   have h2 : 32 * (l.length - 1) < k := (Nat.pow_lt_pow_iff_right (a := 2) (by omega)).1 (Nat.lt_of_le_of_lt h1 h)
   omega
end Num
def iv (neg : Bool) (a : Option Addr) (n cap : Nat) : Value := .agg #[.bool neg, .slice a n cap]
def IsInt (w : World) (v : Value) (z : Int) : Prop := ∃ neg a cap l, v = iv neg a (List.length l) cap ∧ U32 w a cap l ∧ Nrm l ∧ (neg = true → l ≠ []) ∧ z = sg neg (val l)
theorem IsInt.keep {w w' : World} {v : Value} {z : Int} (h : IsInt w v z) (hb : Below w.heap.size w w') : IsInt w' v z := by
 obtain ⟨neg, a, cap, l, h1, h2, h3, h4, h5⟩ := h
 exact ⟨neg, a, cap, l, h1, h2.keep hb, h3, h4, h5⟩
theorem addr_ne {b o b' o' : Nat} {s s' : Option Nat} (h : b ≠ b') : (⟨b, o, s⟩ : Addr) ≠ ⟨b', o', s'⟩ := fun e => h (congrArg Addr.block e)
theorem U32.put {w : World} {a : Option Addr} {cap : Nat} {l : List Nat} {p : Addr} {v : Value} (h : U32 w a cap l) (hp : w.cell? p = some v) (hv : ∀ n, v ≠ .int .u32 n) (u : Value) : U32 (w.setCell p u) a cap l := by
 refine ⟨h.1, h.2.1, h.2.2.1, ?_⟩
 rcases h.2.2.2 with h0 | ⟨b, off, h1, h2⟩
 · exact .inl h0
 · refine .inr ⟨b, off, h1, fun k hk => cell_far (h2 k hk) ?_ u, by rw [typ_set]; exact h2.ty⟩
   intro e
   rw [e, h2 k hk] at hp
   exact hv _ (Option.some.inj hp).symm
theorem IsInt.put {w : World} {x : Value} {z : Int} {p : Addr} {v : Value} (h : IsInt w x z) (hp : w.cell? p = some v) (hv : ∀ n, v ≠ .int .u32 n) (u : Value) : IsInt (w.setCell p u) x z := by
 obtain ⟨neg, a, cap, l, h1, h2, h3, h4, h5⟩ := h
 exact ⟨neg, a, cap, l, h1, h2.put hp hv u, h3, h4, h5⟩
theorem IsInt.put2 {w : World} {x : Value} {z : Int} {g : Nat} {b : Bool} {a : Option Addr} {n c : Nat} (h : IsInt w x z) (r0 : w.cell? ⟨g, 0, none⟩ = some (.bool b)) (r1 : w.cell? ⟨g, 1, none⟩ = some (.slice a n c)) (u v : Value) : IsInt ((w.setCell ⟨g, 0, none⟩ u).setCell ⟨g, 1, none⟩ v) x z :=
 (h.put r0 (fun _ e => by cases e) u).put (cell_far r1 (by simp) u) (fun _ e => by cases e) v

theorem made_c (neg : Bool) (a : Option Addr) (ca : Nat) (l : List Nat) (w : World) (ha : U32 w a ca l) (hn : Nrm l) :
 Calls Tryz.prog 122 #[.bool neg, .slice a l.length ca] w fun e w' => (∃ v, e = .returned v ∧ IsInt w' v (sg neg (val l))) ∧ Below w.heap.size w w' := by
 have key : Calls Tryz.prog 122 #[.bool neg, .slice a l.length ca] w fun e w' => e = .returned (iv (neg && decide (0 < l.length)) a l.length ca) ∧ Below w.heap.size w w' := by
  clear ha hn
  generalize hk : l.length = k
  clear hk
  cases neg with
  | false =>
   go_enter Tryz.func122, Tryz.ntmps122
   go_wp2
   refine bodyPost_ret (v := iv false a k ca) (by simp [iv, results, Tryz.results122, go_sem, *]) rfl ⟨rfl, ?_⟩
   repeat (first | exact Below.refl _ _ | exact Below.refl _ _ | refine Below.drew ?_ | refine below_drewN ?_ _ | refine bset ?_ (by simp <;> omega) _ | refine bal ?_ _)
  | true =>
   by_cases hk : 0 < k
   · have e : (0 : Int) < (k : Int) := by omega
     go_enter Tryz.func122, Tryz.ntmps122
     go_wp2
     refine bodyPost_ret (v := iv true a k ca) (by simp [iv, results, Tryz.results122, go_sem, *]) rfl ⟨by simp [hk], ?_⟩
     repeat (first | exact Below.refl _ _ | exact Below.refl _ _ | refine Below.drew ?_ | refine below_drewN ?_ _ | refine bset ?_ (by simp <;> omega) _ | refine bal ?_ _)
   · obtain rfl : k = 0 := by omega
     go_enter Tryz.func122, Tryz.ntmps122
     go_wp2
     refine bodyPost_ret (v := iv false a 0 ca) (by simp [iv, results, Tryz.results122, go_sem, *]) rfl ⟨by simp, ?_⟩
     repeat (first | exact Below.refl _ _ | exact Below.refl _ _ | refine Below.drew ?_ | refine below_drewN ?_ _ | refine bset ?_ (by simp <;> omega) _ | refine bal ?_ _)
 refine key.mono ?_
 rintro e w1 ⟨rfl, hB⟩
 refine ⟨⟨_, rfl, _, a, ca, l, rfl, ha.keep hB, hn, ?_, ?_⟩, hB⟩
 · intro h; simp at h; intro e; subst e; simp at h
 · by_cases h0 : l = []
   · subst h0; simp [sg, val]
   · have : 0 < l.length := List.length_pos_iff.2 h0
     simp [this, sg, h0]
end Go.Proofs.YtbmaffijncapiaaGreatDoor
namespace Go.Proofs.YtbmaffijncapiaaGreatDoor
open Go.ChangeShapes Go.WideShapes Go.ChangeAt Go.RowKit
section
open Num
structure Out (X : Nat → Prop) (w w' : World) : Prop where
 os : w'.os = w.os
 tape : w'.tape = w.tape
 output : w'.output = w.output
 size : w.heap.size ≤ w'.heap.size
 block : ∀ k, k < w.heap.size → ¬ X k → w'.heap[k]? = w.heap[k]?
section
variable {X Y : Nat → Prop} {a b c w w' : World}
theorem Out.refl (X : Nat → Prop) (w : World) : Out X w w := ⟨rfl, rfl, rfl, Nat.le_refl _, fun _ _ _ => rfl⟩
theorem Out.trans (h : Out X a b) (k : Out X b c) : Out X a c :=
 ⟨k.os.trans h.os, k.tape.trans h.tape, k.output.trans h.output, Nat.le_trans h.size k.size, fun i hi hx => (k.block i (Nat.lt_of_lt_of_le hi h.size) hx).trans (h.block i hi hx)⟩
theorem Out.mono (h : Out X a b) (k : ∀ i, i < a.heap.size → X i → Y i) : Out Y a b := ⟨h.os, h.tape, h.output, h.size, fun i hi hx => h.block i hi fun hi' => hx (k i hi hi')⟩
theorem Out.then (h : Out X a b) (k : Out Y b c) (hy : ∀ i, i < a.heap.size → Y i → X i) : Out X a c :=
 ⟨k.os.trans h.os, k.tape.trans h.tape, k.output.trans h.output, Nat.le_trans h.size k.size, fun i hi hx => (k.block i (Nat.lt_of_lt_of_le hi h.size) fun h' => hx (hy i hi h')).trans (h.block i hi hx)⟩
theorem Out.of_below (X : Nat → Prop) (h : Below a.heap.size a b) : Out X a b := ⟨h.os, h.tape, h.output, h.size, fun i hi _ => h.block i hi⟩
theorem Out.below (h : Out X a b) (k : Below b.heap.size b c) : Out X a c := h.trans (.of_below X k)
theorem Out.alloc (h : Out X a b) (o : Obj) : Out X a (b.alloc o) := h.below (bal (Below.refl _ _) o)
theorem Out.drew (h : Out X a b) : Out X a b.drew := ⟨h.os, h.tape, h.output, h.size, h.block⟩
theorem Out.drewN (h : Out X a b) (n : Nat) : Out X a (b.drewN n) := h.below (below_drewN (Below.refl _ _) n)
theorem Out.set (h : Out X a b) {p : Addr} (hp : p.block < a.heap.size → X p.block) (u : Value) : Out X a (b.setCell p u) :=
 ⟨h.os, h.tape, h.output, Nat.le_trans h.size (by simp [World.setCell]), fun k hk hx => (Below.heap_setCell _ _ _ _ fun e => hx (by subst e; exact hp hk)).trans (h.block k hk hx)⟩
theorem Out.grown (h : Out X a b) {row : Option Nat} (hg : b.grownBy c row) (hr : ∀ k, row = some k → k < a.heap.size → X k) : Out X a c :=
 ⟨hg.os.trans h.os, hg.tape.trans h.tape, hg.output.trans h.output, Nat.le_trans h.size hg.size, fun k hk hx => (hg.block k (Nat.lt_of_lt_of_le hk h.size) fun e => hx (hr k e.symm hk)).trans (h.block k hk hx)⟩
theorem Out.to_below {B : Nat} (h : Out X a b) (hx : ∀ k, k < B → k < a.heap.size → ¬ X k) (hB : B ≤ a.heap.size) : Below B a b :=
 ⟨h.os, h.tape, h.output, h.size, fun k hk => h.block k (by omega) (hx k hk (by omega))⟩
theorem okeep (h : Out X a b) {q o : Nat} {s : Option Nat} {v : Value} (hc : a.cell? ⟨q, o, s⟩ = some v) (hx : ¬ X q) : b.cell? ⟨q, o, s⟩ = some v := by
 rw [World.cell?_of_block (w := a) (h.block q (cell_lt hc) hx)]; exact hc
theorem okeepf (h : Out X a b) {q o : Nat} {s : Option Nat} {v : Value} (hc : a.cell? ⟨q, o, s⟩ = some v) (hf : a.frozen? ⟨q, o, s⟩ = false) (hx : ¬ X q) : b.frozen? ⟨q, o, s⟩ = false := by
 rw [World.frozen?_of_block (w := a) (h.block q (cell_lt hc) hx)]; exact hf
theorem Out.blk (h : Out X a b) {g : Nat} {l : List Nat} (hb : Blk a g l) (hx : ¬ X g) : Blk b g l := (h.block g hb.lt hx).trans hb
theorem C32.okeep {o : Option Addr} {l : List Nat} (h : C32 a o l) (k : Out X a b) (hx : ∀ q f, o = some ⟨q, f, none⟩ → ¬ X q) : C32 b o l := by
 rcases h with h | ⟨q, off, h1, h2⟩
 · exact .inl h
 · exact .inr ⟨q, off, h1, fun i hi => _root_.Go.Proofs.YtbmaffijncapiaaGreatDoor.okeep k (h2 i hi) (hx q off h1), by rw [typ_of_block (w := a) (k.block q (typ_lt h2.ty) (hx q off h1))]; exact h2.ty⟩
theorem U32.okeep {o : Option Addr} {cap : Nat} {l : List Nat} (h : U32 a o cap l) (k : Out X a b) (hx : ∀ q f, o = some ⟨q, f, none⟩ → ¬ X q) : U32 b o cap l := ⟨h.1, h.2.1, h.2.2.1, h.2.2.2.okeep k hx⟩
end
end
end Go.Proofs.YtbmaffijncapiaaGreatDoor
