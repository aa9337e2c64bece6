/- DenoteLast: the rows that were told last, kept. -/
import Derived.Test.YtbmaffijncapiaaGreatDoorL31
import Derived.Test.YtbmaffijncapiaaGreatDoorL32
import Derived.Test.YtbmaffijncapiaaGreatDoorL30
import Derived.Shelf.RegionOpen
set_option linter.unusedVariables false
set_option linter.unusedSimpArgs false
namespace Go.Proofs.YtbmaffijncapiaaGreatDoor
open Num
open Go.ChangeShapes Go.WideShapes Go.ChangeAt Go.RowKit
set_option linter.unusedVariables false
set_option linter.unusedSimpArgs false
attribute [local go_sem ↓] Go.wp_at_zero Go.wp_at_succ
attribute [local go_sem] Oper.semAt_some
structure LastR (G s : GridF) (S : Nat → Prop) (R LB : Nat) (W : World) : Prop where
  free : Free W LB
  ty : typOf W LB = some 38
  cell : ∀ k, k < R → ∃ u, W.cell? ⟨LB, k, none⟩ = some u ∧ ((u = .slice none 0 0 ∧ s.getD k [] = G.getD k []) ∨ ∃ b, S b ∧ PRp 0 W u (b, s.getD k []))
theorem LastR.new (w : World) (G : GridF) (S : Nat → Prop) (R : Nat) : LastR G G S R w.heap.size (w.alloc (.cells (Array.replicate R (.slice none 0 0)) 38)) :=
  ⟨Free.new rfl, typ_fresh rfl, fun k hk => ⟨.slice none 0 0, cell_new rfl (by simp [hk]), .inl ⟨rfl, rfl⟩⟩⟩
theorem LastR.keep {G s : GridF} {S : Nat → Prop} {R LB : Nat} {W V : World} (h : LastR G s S R LB W) (k : Below W.heap.size W V) : LastR G s S R LB V :=
  ⟨h.free.keep k, typ_keep h.ty k, fun j hj => by
    obtain ⟨u, hu, hc⟩ := h.cell j hj
    exact ⟨u, bkeep k hu, hc.imp id fun ⟨b, hs, hp⟩ => ⟨b, hs, (prs_prp 0).kp hp (Kp.of_below _ k)⟩⟩⟩
theorem LastR.clo {G s : GridF} {S : Nat → Prop} {R LB n0 : Nat} {W V : World} (h : LastR G s S R LB W) (c : Clo n0 S W V) (hs : S LB) : LastR G s S R LB V := by
  have hb := c.block LB h.free.1 (.inr (.inl hs))
  refine ⟨⟨Nat.lt_of_lt_of_le h.free.1 c.size, fun j => by rw [World.frozen?_of_block (w := W) hb]; exact h.free.2 j⟩, c.typ (.inr hs) h.ty, fun j hj => ?_⟩
  obtain ⟨u, hu, hc⟩ := h.cell j hj
  refine ⟨u, by rw [World.cell?_of_block (w := W) hb]; exact hu, hc.imp id ?_⟩
  rintro ⟨b, hsb, cc, e, h1, h2, hf⟩
  have hbb := c.block b (typ_lt hf.ty) (.inr (.inl hsb))
  exact ⟨b, hsb, cc, e, h1, h2, c.typ (.inr hsb) hf.ty, ⟨Nat.lt_of_lt_of_le hf.fr.1 c.size, fun j => by rw [World.frozen?_of_block (w := W) hbb]; exact hf.fr.2 j⟩, fun j hj => (hf.at_ j hj).stay frk_prog hbb c.lim⟩
theorem LastR.step {G s : GridF} {S : Nat → Prop} {R LB nt b base : Nat} {W : World} {v : Value} {r : List Rat} (h : LastR G s S R LB W) (hv : PRp base W v (b, r)) (ht : nt < R) (hs : R = s.length) : LastR G (s.set nt r) (fun q => S q ∨ q = b) R LB (W.setCell ⟨LB, nt, none⟩ v) := by
  have hk : Kp (· ≠ 38) W (W.setCell ⟨LB, nt, none⟩ v) := (Kp.refl _ W).set (fun t ht => by rw [h.ty] at ht; cases ht; exact fun k => k rfl) _
  have hp : ∀ {u : Value} {x : Nat × List Rat}, PRp 0 W u x → PRp 0 (W.setCell ⟨LB, nt, none⟩ v) u x := fun hx => (prs_prp 0).kp hx (hk.weak fun t ht e => by rcases ht with ht | ht <;> (rw [ht] at e; exact absurd e (by decide)))
  refine ⟨h.free.set _ _, by rw [typ_set]; exact h.ty, fun k hk2 => ?_⟩
  by_cases e : nt = k
  · subst e
    obtain ⟨u, hu, _⟩ := h.cell nt hk2
    refine ⟨v, cell_here hu _, .inr ⟨b, .inr rfl, ?_⟩⟩
    rw [gsetF _ _ _ (by omega), if_pos rfl]
    exact hp (hv.rebase (Nat.zero_le _))
  · obtain ⟨u, hu, hc⟩ := h.cell k hk2
    refine ⟨u, cell_far hu (by first | (simp; done) | (simp; omega)) _, ?_⟩
    rw [gsetF _ _ _ (by omega), if_neg (fun e2 => e e2.symm)]
    rcases hc with hc | ⟨b', hs', hp'⟩
    · exact .inl hc
    · exact .inr ⟨b', .inl hs', hp hp'⟩
structure LInv (code : List Ins) (G : GridF) (R LB : Nat) (w0 : World) (k : Nat) (S : Nat → Prop) (W : World) : Prop where
  hs : S LB
  soil : ∀ q, S q → typOf W q = some 38 ∨ typOf W q = some 79
  out : Out (fun q => q = LB) w0 W
  rel : ∃ s, afterF code G k = some s ∧ LastR G s S R LB W
theorem LInv.clo {code : List Ins} {G : GridF} {R LB n0 k : Nat} {S : Nat → Prop} {w0 W V : World} (h : LInv code G R LB w0 k S W) (c : Clo n0 S W V) (hn : n0 = w0.heap.size) : LInv code G R LB w0 k S V :=
  ⟨h.hs, fun q hq => (h.soil q hq).imp (c.typ (.inr hq)) (c.typ (.inr hq)), out_low9 h.out (by subst hn; exact c.low h.out.size), by obtain ⟨s, h1, h2⟩ := h.rel; exact ⟨s, h1, h2.clo c h.hs⟩⟩
theorem LInv.soilS {code : List Ins} {G : GridF} {R LB k : Nat} {S : Nat → Prop} {w0 W : World} (h : LInv code G R LB w0 k S W) : Soil S W := fun q hq => by
  rcases h.soil q hq with e | e
  · exact ⟨_, e, by decide⟩
  · exact ⟨_, e, by decide⟩
theorem LInv.next {code : List Ins} {G : GridF} {R LB nt b base k : Nat} {S : Nat → Prop} {w0 W : World} {v : Value} {r : List Rat} (h : LInv code G R LB w0 k S W) (hv : PRp base W v (b, r)) (ht : nt < R) (hR : R = G.length) (hn : ∀ s, afterF code G k = some s → afterF code G (k + 1) = some (s.set nt r)) :
    LInv code G R LB w0 (k + 1) (fun q => S q ∨ q = b) (W.setCell ⟨LB, nt, none⟩ v) ∧ OutT (fun q => S q ∨ q = b) W (W.setCell ⟨LB, nt, none⟩ v) := by
  have ho : Out (fun q => q = LB) W (W.setCell ⟨LB, nt, none⟩ v) := Out.set (Out.refl (fun q => q = LB) W) (p := ⟨LB, nt, none⟩) (fun _ => rfl) _
  obtain ⟨s, h1, h2⟩ := h.rel
  refine ⟨⟨.inl h.hs, fun q hq => ?_, h.out.trans ho, s.set nt r, hn s h1, h2.step hv ht (by rw [hR]; exact (afterF_len h1).symm)⟩, ho.mono fun q _ e => .inl (e ▸ h.hs), fun q _ _ => by rw [typ_set]⟩
  rw [typ_set]
  rcases hq with hq | hq
  · exact h.soil q hq
  · obtain ⟨_, _, _, _, hf⟩ := hv
    rw [hq]; exact .inr hf.ty
theorem outX {S T : Nat → Prop} {b : Nat} {X Z W : World} (hb : Below X.heap.size X Z) (h : OutT (fun q => S q ∨ q = b) Z W) (hx : ∀ q, q = b → T q) (hx2 : ∀ q, T q → q = b) : OutT (fun q => S q ∨ T q) X W :=
  ⟨(Out.of_below _ hb).trans (h.1.mono fun q _ e => e.imp id (hx q)), fun q hq hl => by
    rw [h.2 q (hq.imp id (hx2 q)) (Nat.lt_of_lt_of_le hl hb.size)]
    unfold typOf; rw [hb.block q hl]⟩
theorem told_slim {code : List Ins} {G h : GridF} (e : afterF code G code.length = some h) {k : Nat} (hk : k < code.length) : SlimR (toldQ code G k) := by
  cases e1 : afterF code G k with
  | none => rw [afterF_mono e1 (show k ≤ code.length by omega)] at e; cases e
  | some s =>
    by_cases hs : SlimR (toldQ code G k)
    · exact hs
    · have h2 : afterF code G (k + 1) = none := by rw [afterF_next e1, if_neg hs]
      rw [afterF_mono h2 hk] at e; cases e
theorem neqNil9 {P : Program} (w : World) (t e : TypeId) (a : Option Addr) (n c n' c' : Nat) (h : P.underlying t = some (.slice e)) : (binOp .neq t (.slice a n c) (.slice none n' c')).run P w = .ok (.bool (!a.isNone)) w := by
  simp only [binOp]
  simp [Op.equal, Op.maxDepth, Lib.run_equalIn_slice_nil w 9999 t e a n c n' c' h]
theorem VarF.mk {w : World} {n1 n2 : Bool} {a1 a2 : Option Addr} {l1 c1 l2 c2 : Nat} {q : Rat} (hv : IsQP w (.agg #[.bool n1, .slice a1 l1 c1, .bool n2, .slice a2 l2 c2]) q) : VarF w.heap.size q (w.alloc (.cells #[.bool n1, .slice a1 l1 c1, .bool n2, .slice a2 l2 c2] 79)) := by
  refine ⟨typ_fresh rfl, Free.new rfl, fun k hk => ?_⟩
  obtain rfl : k = 0 := by omega
  exact ⟨_, _, _, _, _, _, _, _, cell_new rfl rfl, cell_new rfl rfl, cell_new rfl rfl, cell_new rfl rfl, hv.keep (bal (Below.refl _ _) _)⟩
def AtL (code : List Ins) (G : GridF) (T : Array Value) (k : Nat) (S : Nat → Prop) (args : Array Value) (a' : Act) (X : World) : Prop := ∃ v b base, args = #[.int .i64 (k : Int), v] ∧ PRp base X v (b, toldQ code G k) ∧ ¬ S b ∧ a' = { tmps := (((T.setIfInBounds 64 (.int .i64 (k : Int))).setIfInBounds 65 v).setIfInBounds 8 (.int .i64 (k : Int))).setIfInBounds 9 v, defers := [] }
end Go.Proofs.YtbmaffijncapiaaGreatDoor

