/- Texts of this seat, laid together: EwB, RtA, RtB, RtC, ExD, VmF, VmG, VmH, ExE, ExI, RtD, ExM. Each opens with its own remark, which says what it proves, and under which conditions. -/
import Derived.Test.YthaohpfbengabaaGreatDoorV11
import Derived.Test.YthaohpfbengabaaGreatDoorV02
import Derived.Deep.DeepFit
import Derived.Deep.RegionLaw
import Derived.Deep.DrawnRows
import Derived.Test.YthaohpfbengabaaGreatDoorV08
import Derived.Test.YthaohpfbengabaaGreatDoorV07
import Derived.Test.YthaohpfbengabaaGreatDoorV03
import Derived.Test.YthaohpfbengabaaGreatDoorV04
import Derived.Laws.CopyRow
import Derived.Laws.Rows
import Derived.Laws.Tables
import Derived.Test.YthaohpfbengabaaGreatDoorV09
import Derived.Deep.Cut
import Derived.Deep.DeepCutAuto
import Derived.Deep.LoopGhost
set_option linter.unusedVariables false
set_option linter.unusedSimpArgs false
/- exact's laws: numbers that come in, as rows of both; grids of both. -/
namespace Go.Proofs.YthaohpfbengabaaGreatDoor
open Num
open Go.ChangeShapes Go.WideShapes Go.ChangeAt Go.RowKit
set_option linter.unusedVariables false
set_option linter.unusedSimpArgs false
attribute [local go_sem ↓] Go.wp_at_zero Go.wp_at_succ
theorem OwnF.kp {R : World → Value → Int → Prop} {E : TypeId} {w0 wr w' : World} {v : Value} {n : Nat} {f : Nat → Int} {S : TypeId → Prop} (hR : Lims R) (h : OwnF R E w0 wr v n f) (k : Kp S wr w') (hs : S 133) (hE : S E) (hb : Below w0.heap.size w0 w') : OwnF R E w0 w' v n f := by
  obtain ⟨xs, ⟨h1, _⟩, h2⟩ := h
  refine ⟨xs, ⟨owns_kp h1 k hE, hb⟩, fun j hj => ?_⟩
  obtain ⟨nb, a, len, c, k1, k2, k3⟩ := h2 j hj
  exact ⟨nb, a, len, c, k1, k2, hR _ _ _ _ k3 (k.lim hs)⟩
theorem OwnF.grown {R : World → Value → Int → Prop} {E : TypeId} {w0 wr w' : World} {v : Value} {n : Nat} {f : Nat → Int} (h : OwnF R E w0 wr v n f) (ho : Out (fun k => v.ownBlock = some k) wr w') : Kp (· ≠ E) wr w' :=
  Kp.out ho (fun q t hq ht hne => by
    obtain ⟨xs, h1, _⟩ := h
    rw [own_typ h1 hq] at ht
    exact hne (Option.some.inj ht).symm)
theorem OwnL.kp {α : Type} {S S' : TypeId → Prop} {T : TypeId} {Pr : World → Value → α → Prop} {w0 wr w' : World} {v : Value} {g : List α} (hP : Prs S Pr) (h : OwnL T Pr w0 wr v g) (k : Kp S' wr w') (hs : ∀ t, S t → S' t) (hT : S' T) (hb : Below w0.heap.size w0 w') : OwnL T Pr w0 w' v g := by
  obtain ⟨xs, ⟨h1, _⟩, h2⟩ := h
  refine ⟨xs, ⟨owns_kp h1 k hT, hb⟩, fun j hj => ?_⟩
  obtain ⟨u, hu, hr⟩ := h2 j hj
  exact ⟨u, hu, hP.kp hr (k.weak hs)⟩
end Go.Proofs.YthaohpfbengabaaGreatDoor

/- The reference's rows: Combine, Add, Sub, Scale, Zero. -/
namespace Go.Proofs.YthaohpfbengabaaGreatDoor
open Num
open Go.ChangeShapes Go.WideShapes Go.ChangeAt Go.RowKit
set_option linter.unusedVariables false
set_option linter.unusedSimpArgs false
attribute [local go_sem ↓] Go.wp_at_zero Go.wp_at_succ
end Go.Proofs.YthaohpfbengabaaGreatDoor

/- The reference's rows: Over; what an instruction makes of rows (do). -/
namespace Go.Proofs.YthaohpfbengabaaGreatDoor
open Num
open Go.ChangeShapes Go.WideShapes Go.ChangeAt Go.RowKit
set_option linter.unusedVariables false
set_option linter.unusedSimpArgs false
attribute [local go_sem ↓] Go.wp_at_zero Go.wp_at_succ
end Go.Proofs.YthaohpfbengabaaGreatDoor

/- The reference's rows: constant; what an instruction makes of rows (do). -/
namespace Go.Proofs.YthaohpfbengabaaGreatDoor
open Num
open Go.ChangeShapes Go.WideShapes Go.ChangeAt Go.RowKit
set_option linter.unusedVariables false
set_option linter.unusedSimpArgs false
attribute [local go_sem ↓] Go.wp_at_zero Go.wp_at_succ
/-- the reference's registers in a block that may be written -/
structure RegsQ (w : World) (rb : Nat) (g : Grid) : Prop where
  free : Free w rb
  ty : typOf w rb = some 33
  cell : ∀ k, k < g.length → ∃ u, w.cell? ⟨rb, k, none⟩ = some u ∧ RRow 0 w u (g.getD k [])
theorem RegsQ.keep {rb : Nat} {w w' : World} {g : Grid} (h : RegsQ w rb g) (k : Below w.heap.size w w') : RegsQ w' rb g :=
  ⟨h.free.keep k, typ_keep h.ty k, fun j hj => by obtain ⟨u, hu, hr⟩ := h.cell j hj; exact ⟨u, bkeep k hu, hr.keep lims_ref k⟩⟩
theorem RegsQ.step {rb nt : Nat} {w : World} {g : Grid} {v : Value} {r : List Int} (h : RegsQ w rb g) (hv : RRow 0 w v r) (ht : nt < g.length) : RegsQ (w.setCell ⟨rb, nt, none⟩ v) rb (g.set nt r) := by
  have hk : Kp (· ≠ 33) w (w.setCell ⟨rb, nt, none⟩ v) := (Kp.refl _ w).set (fun t ht => by rw [h.ty] at ht; cases ht; exact fun k => k rfl) _
  refine ⟨h.free.set _ _, by rw [typ_set]; exact h.ty, fun k hk' => ?_⟩
  rw [List.length_set] at hk'
  by_cases e : nt = k
  · subst e
    obtain ⟨u, hu, _⟩ := h.cell nt hk'
    refine ⟨v, cell_here hu _, ?_⟩
    have : (g.set nt r).getD nt [] = r := by simp [hk']
    rw [this]
    exact hv.kp lims_ref hk (by decide) (by decide)
  · obtain ⟨u, hu, hr⟩ := h.cell k hk'
    refine ⟨u, cell_far hu (fun e2 => e (by cases e2; rfl)) _, ?_⟩
    have : (g.set nt r).getD k [] = g.getD k [] := by simp [List.getElem?_set_ne e]
    rw [this]
    exact hr.kp lims_ref hk (by decide) (by decide)
end Go.Proofs.YthaohpfbengabaaGreatDoor

/- exact: a new row of noughts, into which a row of numbers is copied. -/
namespace Go.Proofs.YthaohpfbengabaaGreatDoor
open Num
open Go.ChangeShapes Go.WideShapes Go.ChangeAt Go.RowKit
set_option linter.unusedVariables false
set_option linter.unusedSimpArgs false
section
variable {ops : Array Oper} {o : Oper} {a : Act} {Q : Exit → Act → World → Prop} {w : World} {d x : Operand}
end
end Go.Proofs.YthaohpfbengabaaGreatDoor

/- vm: New. -/
namespace Go.Proofs.YthaohpfbengabaaGreatDoor
open Num
open Go.ChangeShapes Go.WideShapes Go.ChangeAt Go.RowKit
set_option linter.unusedVariables false
set_option linter.unusedSimpArgs false
attribute [local go_sem ↓] Go.wp_at_zero Go.wp_at_succ
/-- blocks fit a program -/
structure FitsG (ins : Int) (g : Grid) : Prop where
  len : (g.length : Int) = ins
  rect : Rect (g.getD 0 []).length g
  m : (g.getD 0 []).length ≤ 4096
abbrev GridV (w : World) (v : Value) (g : Grid) : Prop := IsL 59 (PRow 0) 0 w v g
end Go.Proofs.YthaohpfbengabaaGreatDoor

/- vm: Next, Done, Outs. -/
namespace Go.Proofs.YthaohpfbengabaaGreatDoor
open Num
open Go.ChangeShapes Go.WideShapes Go.ChangeAt Go.RowKit
set_option linter.unusedVariables false
set_option linter.unusedSimpArgs false
attribute [local go_sem ↓] Go.wp_at_zero Go.wp_at_succ
section
variable {base b rb rc : Nat} {ins regs : Int} {code : List Ins} {outs : List Int} {g : Grid} {n : Nat}
end
end Go.Proofs.YthaohpfbengabaaGreatDoor

/- vm: Run. -/
namespace Go.Proofs.YthaohpfbengabaaGreatDoor
open Num
open Go.ChangeShapes Go.WideShapes Go.ChangeAt Go.RowKit
set_option linter.unusedVariables false
set_option linter.unusedSimpArgs false
end Go.Proofs.YthaohpfbengabaaGreatDoor

/- exact: right, Run. -/
namespace Go.Proofs.YthaohpfbengabaaGreatDoor
open Num
open Go.ChangeShapes Go.WideShapes Go.ChangeAt Go.RowKit
set_option linter.unusedVariables false
set_option linter.unusedSimpArgs false
attribute [local go_sem ↓] Go.wp_at_zero Go.wp_at_succ
end Go.Proofs.YthaohpfbengabaaGreatDoor

/- exact: laid: the registers over a grid. -/
namespace Go.Proofs.YthaohpfbengabaaGreatDoor
open Num
open Go.ChangeShapes Go.WideShapes Go.ChangeAt Go.RowKit
set_option linter.unusedVariables false
set_option linter.unusedSimpArgs false
attribute [local go_sem ↓] Go.wp_at_zero Go.wp_at_succ
theorem typ_out {X : Nat → Prop} {a b : World} {g : Nat} {t : TypeId} (h : typOf a g = some t) (ho : Out X a b) (hx : ¬ X g) : typOf b g = some t := by
  rw [typ_of_block (w := a) (ho.block g (typ_lt h) hx)]; exact h
/-- one register is set, to a row in a new block -/
theorem RegsP.put {w W : World} {base rb k : Nat} {G : Grid} {u : Value} {r : List Int} (h : RegsP base w rb G) (ho : Out (fun q => q = rb ∨ q = w.heap.size) w W) (hf : Free W rb) (ht : typOf W rb = some 59)
    (hc : ∀ j, j ≠ k → ∀ v, w.cell? ⟨rb, j, none⟩ = some v → W.cell? ⟨rb, j, none⟩ = some v) (hk : W.cell? ⟨rb, k, none⟩ = some u) (hu : PRow base W u r) : RegsP base W rb (G.set k r) := by
  have hkp : Kp (· ≠ 59) w W := Kp.out ho (fun q t hq ht' hs => by
    rcases hq with rfl | rfl
    · rw [h.ty] at ht'; exact hs (Option.some.inj ht').symm
    · exact absurd (typ_lt ht') (by omega))
  refine ⟨hf, ht, fun j hj => ?_⟩
  rw [List.length_set] at hj
  by_cases e : k = j
  · subst e
    exact ⟨u, hk, by rw [show (G.set k r).getD k [] = r by simp [hj]]; exact hu⟩
  · obtain ⟨v, hv, hr⟩ := h.cell j hj
    exact ⟨v, hc j (Ne.symm e) v hv, by rw [show (G.set k r).getD j [] = G.getD j [] by simp [List.getElem?_set_ne e]]; exact hr.kp lims_int hkp (by decide) (by decide)⟩
end Go.Proofs.YthaohpfbengabaaGreatDoor

/- The reference: Follow: a program over a grid. -/
namespace Go.Proofs.YthaohpfbengabaaGreatDoor
open Num
open Go.ChangeShapes Go.WideShapes Go.ChangeAt Go.RowKit
set_option linter.unusedVariables false
set_option linter.unusedSimpArgs false
attribute [local go_sem ↓] Go.wp_at_zero Go.wp_at_succ
/-- the row that the n-th instruction sets -/
def toldR (code : List Ins) (g : Grid) (n : Nat) : List Int :=
  match after code g n with
  | some h => (stepR (code.getD n default) (h.getD (code.getD n default).a.toNat []) (h.getD (code.getD n default).b.toNat [])).getD []
  | none => []
/-- the rows that the first n instructions set -/
def told (code : List Ins) (g : Grid) (n : Nat) : Grid := (List.range n).map (toldR code g)
/-- a list of the call's own (from base on), built by append; base is free -/
def OwnLB {α : Type} (T : TypeId) (Pr : World → Value → α → Prop) (base : Nat) (w : World) (v : Value) (g : List α) : Prop :=
  ∃ xs, w.ownsRow base T 1 v g.length xs ∧ ∀ k (hk : k < g.length), ∃ u, xs[k]? = some u ∧ Pr w u g[k]
section
variable {α : Type} {S S' : TypeId → Prop} {T : TypeId} {Pr : World → Value → α → Prop} {base : Nat} {w0 wr w' : World} {v u : Value} {g : List α} {y : α}
theorem OwnLB.nil (T : TypeId) (Pr : World → Value → α → Prop) (base : Nat) (w : World) : OwnLB T Pr base w (.slice none 0 0) [] := ⟨[], World.ownsRow_nil _ _ _ _, fun k hk => absurd hk (by simp)⟩
theorem OwnLB.keep (hP : Prs S Pr) (h : OwnLB T Pr base wr v g) (hb : Below wr.heap.size wr w') : OwnLB T Pr base w' v g := by
  obtain ⟨xs, h1, h2⟩ := h
  refine ⟨xs, owns_kp (S := fun _ => True) h1 (Kp.of_below _ hb) trivial, fun k hk => ?_⟩
  obtain ⟨u, hu, hr⟩ := h2 k hk
  exact ⟨u, hu, hP.kp hr (Kp.of_below _ hb)⟩
theorem OwnLB.ex (h : OwnLB T Pr base wr v g) : ∃ a c, v = .slice a g.length c := by
  obtain ⟨xs, ⟨_, h1⟩, _⟩ := h
  rcases h1 with ⟨rfl, h0⟩ | ⟨b, cap, cur, rfl, _⟩
  · exact ⟨none, 0, by rw [h0]⟩
  · exact ⟨_, _, rfl⟩
theorem OwnLB.set (hP : Prs S Pr) (h : OwnLB T Pr base wr v g) {p : Addr} {t : TypeId} (ht : typOf wr p.block = some t) (h2 : ¬ S t) (hp : p.block < base) (y : Value) : OwnLB T Pr base (wr.setCell p y) v g := by
  obtain ⟨xs, hO, hx⟩ := h
  have hk : Kp S wr (wr.setCell p y) := (Kp.refl _ _).set (fun t' ht' => by rw [ht] at ht'; cases ht'; exact h2) y
  refine ⟨xs, ownsRow_setCell_other hO ?_ y, fun k hk' => ?_⟩
  · intro hb
    have := (hO.lt _ hb).1
    omega
  · obtain ⟨u, hu, hr⟩ := hx k hk'
    exact ⟨u, hu, hP.kp hr hk⟩
end
section
variable {α : Type} {P : Program} {TT T : TypeId} {bytes : Nat} {S : TypeId → Prop} {Pr : World → Value → α → Prop} {ops : Array Oper} {o : Oper} {a : Act} {Q : Exit → Act → World → Prop} {base : Nat} {wr : World} {v u : Value} {g : List α} {y : α} {s x : Operand} {cc gb : Nat}
end
theorem RegsQ.grown {wr w' : World} {rb base : Nat} {g : Grid} (h : RegsQ wr rb g) (hk : Kp (· ≠ 33) wr w') (ho : Out (fun k => base ≤ k) wr w') (hb : rb < base) : RegsQ w' rb g := by
  have hx : ¬ (base ≤ rb) := by omega
  exact ⟨h.free.out ho hx, typ_out h.ty ho hx, fun j hj => by
    obtain ⟨u, hu, hr⟩ := h.cell j hj
    exact ⟨u, okeep ho hu hx, hr.kp lims_ref hk (by decide) (by decide)⟩⟩
end Go.Proofs.YthaohpfbengabaaGreatDoor

/- exact: run on rows, told to a loop's body. -/
namespace Go.Proofs.YthaohpfbengabaaGreatDoor
open Num
open Go.ChangeShapes Go.WideShapes Go.ChangeAt Go.RowKit
set_option linter.unusedVariables false
set_option linter.unusedSimpArgs false
attribute [local go_sem ↓] Go.wp_at_zero Go.wp_at_succ
/-- a row that lies in none of the blocks S -/
def PRowX (S : Nat → Prop) (w : World) (v : Value) (l : List Int) : Prop := PRow 0 w v l ∧ (l = [] ∨ ∀ b, rowBlk v = some b → ¬ S b)
section
variable {S S' : Nat → Prop} {w w' : World} {v : Value} {l : List Int} {base : Nat}
theorem PRowX.keep (h : PRowX S w v l) (k : Below w.heap.size w w') : PRowX S w' v l := ⟨h.1.keep lims_int k, h.2⟩
theorem Soil.lt (h : Soil S w) {q : Nat} (hq : S q) : q < w.heap.size := by obtain ⟨t, ht, _⟩ := h q hq; exact typ_lt ht
theorem PRowX.of (h : PRow base w v l) (hS : ∀ q, S q → q < base) : PRowX S w v l := by
  refine ⟨h.rebase (Nat.zero_le _), ?_⟩
  obtain ⟨a, c, rfl, _, _, h4⟩ := h
  rcases h4 with h4 | ⟨b, off, rfl, hb, _⟩
  · exact .inl h4
  · refine .inr fun q hq hs => ?_
    simp [rowBlk] at hq
    subst hq
    have := hS _ hs
    omega
theorem OutT.lim (h : OutT S w w') (hS : Soil S w) : Lim w w' := fun q ht => by
  have hq : ¬ S q := fun hs => by
    obtain ⟨t, h1, h2⟩ := hS q hs
    rw [ht] at h1; cases h1; exact h2 rfl
  have e := h.1.block q (typ_lt ht) hq
  exact ⟨by rw [typ_of_block (w := w) e]; exact ht, fun o n hc => by rw [World.cell?_of_block (w := w) e]; exact hc⟩
theorem PRowX.told (h : PRowX S w v l) (ho : OutT S w w') (hS : Soil S w) (hg : Grew S S' w) : PRowX S' w' v l := by
  obtain ⟨⟨a, c, rfl, h1, h2, h4⟩, hx⟩ := h
  rcases h4 with h4 | ⟨b, off, rfl, hb, ht, hi⟩
  · exact ⟨⟨a, c, rfl, h1, h2, .inl h4⟩, .inl h4⟩
  · rcases hx with hx | hx
    · exact ⟨⟨_, c, rfl, h1, h2, .inl hx⟩, .inl hx⟩
    · have hn : ¬ S b := hx b rfl
      have e := ho.1.block b (typ_lt ht) hn
      refine ⟨⟨_, c, rfl, h1, h2, .inr ⟨b, off, rfl, hb, by rw [typ_of_block (w := w) e]; exact ht, hi.stay lims_int e (ho.lim hS)⟩⟩, .inr fun q hq hs => ?_⟩
      simp [rowBlk] at hq
      subst hq
      rcases hg _ hs with h | h
      · exact hn h
      · have := typ_lt ht; omega
end
/-- the registers in a block that may be written; their rows lie in none of the blocks S -/
structure RegsX (S : Nat → Prop) (w : World) (rb : Nat) (g : Grid) : Prop where
  free : Free w rb
  ty : typOf w rb = some 59
  cell : ∀ k, k < g.length → ∃ u, w.cell? ⟨rb, k, none⟩ = some u ∧ PRowX S w u (g.getD k [])
section
variable {S S' : Nat → Prop} {w w' : World} {rb base : Nat} {g : Grid}
theorem RegsX.regs (h : RegsX S w rb g) : RegsP 0 w rb g := ⟨h.free, h.ty, fun k hk => by obtain ⟨u, hu, hr⟩ := h.cell k hk; exact ⟨u, hu, hr.1⟩⟩
theorem RegsX.keep (h : RegsX S w rb g) (k : Below w.heap.size w w') : RegsX S w' rb g :=
  ⟨h.free.keep k, typ_keep h.ty k, fun j hj => by obtain ⟨u, hu, hr⟩ := h.cell j hj; exact ⟨u, bkeep k hu, hr.keep k⟩⟩
theorem RegsX.of (h : RegsP base w rb g) (hS : ∀ q, S q → q < base) : RegsX S w rb g :=
  ⟨h.free, h.ty, fun j hj => by obtain ⟨u, hu, hr⟩ := h.cell j hj; exact ⟨u, hu, .of hr hS⟩⟩
theorem RegsX.told (h : RegsX S w rb g) (hr : ¬ S rb) (ho : OutT S w w') (hS : Soil S w) (hg : Grew S S' w) : RegsX S' w' rb g :=
  ⟨h.free.out ho.1 hr, typ_outK h.ty ho.1 hr, fun j hj => by obtain ⟨u, hu, hr'⟩ := h.cell j hj; exact ⟨u, okeep ho.1 hu hr, hr'.told ho hS hg⟩⟩
theorem RegsX.step {nt : Nat} {v : Value} {r : List Int} (h : RegsX S w rb g) (hv : PRowX S w v r) (ht : nt < g.length) : RegsX S (w.setCell ⟨rb, nt, none⟩ v) rb (g.set nt r) := by
  have hk : Kp (· ≠ 59) w (w.setCell ⟨rb, nt, none⟩ v) := (Kp.refl _ w).set (fun t ht => by rw [h.ty] at ht; cases ht; exact fun k => k rfl) _
  have hp : ∀ {u : Value} {l : List Int}, PRowX S w u l → PRowX S (w.setCell ⟨rb, nt, none⟩ v) u l := fun h => ⟨h.1.kp lims_int hk (by decide) (by decide), h.2⟩
  refine ⟨h.free.set _ _, by rw [typ_set]; exact h.ty, fun k hk' => ?_⟩
  rw [List.length_set] at hk'
  by_cases e : nt = k
  · subst e
    obtain ⟨u, hu, _⟩ := h.cell nt hk'
    refine ⟨v, cell_here hu _, ?_⟩
    have : (g.set nt r).getD nt [] = r := by simp [hk']
    rw [this]
    exact hp hv
  · obtain ⟨u, hu, hr⟩ := h.cell k hk'
    refine ⟨u, cell_far hu (fun e2 => e (by cases e2; rfl)) _, ?_⟩
    have : (g.set nt r).getD k [] = g.getD k [] := by simp [List.getElem?_set_ne e]
    rw [this]
    exact hp hr
end
/-- how many instructions are told -/
structure ToldG (code : List Ins) (g : Grid) (m : Nat) : Prop where
  le : m ≤ code.length
  has : ∃ h, after code g m = some h
  stop : m < code.length → after code g (m + 1) = none
theorem ToldG.lt {code : List Ins} {g h : Grid} {m n : Nat} (t : ToldG code g m) (hn : n < code.length) (e : after code g (n + 1) = some h) (hm : n ≤ m) : n < m := by
  rcases Nat.lt_or_ge n m with h1 | h1
  · exact h1
  · obtain rfl : n = m := by omega
    rw [t.stop hn] at e; cases e
theorem ToldG.eq {code : List Ins} {g : Grid} {m n : Nat} (t : ToldG code g m) (e : after code g (n + 1) = none) (hm : n ≤ m) : n = m := by
  rcases Nat.lt_or_ge n m with h1 | h1
  · obtain ⟨s, hs⟩ := t.has
    rw [after_mono e (show n + 1 ≤ m by omega)] at hs; cases hs
  · omega
end Go.Proofs.YthaohpfbengabaaGreatDoor

