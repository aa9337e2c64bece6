/- Texts of this seat, laid together: VmD, VmE. Each opens with its own remark, which says what it proves, and under which conditions. -/
import Derived.Test.YtannhpadoooedaaDoorG33
import Derived.Test.YtannhpadoooedaaDoorG34
import Derived.Test.YtannhpadoooedaaDoorG23
import Derived.OneCell
import Derived.Test.YtannhpadoooedaaDoorG32
import Derived.Deep.DrawnRows
import Derived.Deep.RegionLaw
import Derived.Deep.Cut
import Derived.Deep.DeepCutAuto
/- vm: a machine in memory; what keeps it. -/
namespace Go.Proofs.YtannhpadoooedaaDoor
open Num
open Go.ChangeShapes Go.WideShapes Go.ChangeAt Go.RowKit
set_option linter.unusedVariables false
set_option linter.unusedSimpArgs false
section
variable {S : TypeId → Prop} {w w' : World}
theorem FromA.kp {B : Nat} {t : TypeId} {a : Option Addr} (h : FromA B t w a) (k : Kp S w w') (hs : S t) : FromA B t w' a := fun p e => ⟨(h p e).1, k.typ (h p e).2 hs⟩
theorem InsV.kp {B : Nat} {a : Option Addr} {c : Nat} {L : List Ins} (h : InsV w a c L) (hf : FromA B 81 w a) (k : Kp S w w') (hs : S 81) : InsV w' a c L := by
  rcases h with h | ⟨b, off, h1, h2, h3⟩
  · exact .inl h
  · refine .inr ⟨b, off, h1, h2, fun j hj => ?_⟩
    have ht := (hf _ h1).2
    obtain ⟨c0, c1, c2, c3, c4⟩ := h3 j hj
    exact ⟨k.cell ht hs c0, k.cell ht hs c1, k.cell ht hs c2, k.cell ht hs c3, k.cell ht hs c4⟩
theorem IntsV.kp {B : Nat} {a : Option Addr} {c : Nat} {L : List Int} (h : IntsV w a c L) (hf : FromA B 3 w a) (k : Kp S w w') (hs : S 3) : IntsV w' a c L := by
  rcases h with h | ⟨b, off, h1, h2, h3⟩
  · exact .inl h
  · exact .inr ⟨b, off, h1, h2, fun j hj => k.cell (hf _ h1).2 hs (h3 j hj)⟩
end
/-- every type but those of a machine and of a row of rows -/
def Sm (t : TypeId) : Prop := t ≠ 31 ∧ t ≠ 79
theorem sm32 : Sm 120 := by unfold Sm; decide
theorem smI : Sm 34 := by unfold Sm; decide
theorem smP : Sm 81 := by unfold Sm; decide
theorem smN : Sm 3 := by unfold Sm; decide
/-- a row of rows in a block that may be written -/
structure RegsAt (base : Nat) (w : World) (rb : Nat) (g : Grid) : Prop where
  free : Free w rb
  ty : typOf w rb = some 31
  cell : ∀ k, k < g.length → ∃ u, w.cell? ⟨rb, k, none⟩ = some u ∧ PRow base w u (g.getD k [])
theorem RegsAt.keep {base rb : Nat} {w w' : World} {g : Grid} (h : RegsAt base w rb g) (k : Below w.heap.size w w') : RegsAt base w' rb g :=
  ⟨h.free.keep k, typ_keep h.ty k, fun j hj => by obtain ⟨u, hu, hr⟩ := h.cell j hj; exact ⟨u, bkeep k hu, hr.keep lims_int k⟩⟩
/-- a machine: the program's copy, the registers, which instruction is next -/
structure Mach (base : Nat) (w : World) (b rb rc : Nat) (ins regs : Int) (code : List Ins) (outs : List Int) (g : Grid) (n : Nat) : Prop where
  ex : ∃ ca cc oa oc, w.cell? ⟨b, 2, none⟩ = some (.slice ca code.length cc) ∧ w.cell? ⟨b, 3, none⟩ = some (.slice oa outs.length oc) ∧ InsV w ca cc code ∧ IntsV w oa oc outs ∧ FromA base 81 w ca ∧ FromA base 3 w oa
  c0 : w.cell? ⟨b, 0, none⟩ = some (.int .i64 ins)
  c1 : w.cell? ⟨b, 1, none⟩ = some (.int .i64 regs)
  c4 : w.cell? ⟨b, 4, none⟩ = some (.slice (some ⟨rb, 0, none⟩) g.length rc)
  c5 : w.cell? ⟨b, 5, none⟩ = some (.int .i64 n)
  free : Free w b
  ty : typOf w b = some 79
  regs : RegsAt base w rb g
  lo : base ≤ b
  rlo : base ≤ rb
  rcl : g.length ≤ rc
theorem Mach.keep {base : Nat} {w w' : World} {b rb rc : Nat} {ins regs : Int} {code : List Ins} {outs : List Int} {g : Grid} {n : Nat} (h : Mach base w b rb rc ins regs code outs g n) (k : Below w.heap.size w w') : Mach base w' b rb rc ins regs code outs g n := by
  obtain ⟨ca, cc, oa, oc, h1, h2, h3, h4, h5, h6⟩ := h.ex
  exact ⟨⟨ca, cc, oa, oc, bkeep k h1, bkeep k h2, h3.keep k, h4.keep k, h5.keep k, h6.keep k⟩, bkeep k h.c0, bkeep k h.c1, bkeep k h.c4, bkeep k h.c5, h.free.keep k, typ_keep h.ty k, h.regs.keep k, h.lo, h.rlo, h.rcl⟩
theorem Mach.rebase {base C : Nat} {w : World} {b rb rc : Nat} {ins regs : Int} {code : List Ins} {outs : List Int} {g : Grid} {n : Nat} (h : Mach base w b rb rc ins regs code outs g n) (hC : C ≤ base) : Mach C w b rb rc ins regs code outs g n := by
  obtain ⟨ca, cc, oa, oc, h1, h2, h3, h4, h5, h6⟩ := h.ex
  exact ⟨⟨ca, cc, oa, oc, h1, h2, h3, h4, h5.mono hC, h6.mono hC⟩, h.c0, h.c1, h.c4, h.c5, h.free, h.ty, ⟨h.regs.free, h.regs.ty, fun k hk => by obtain ⟨u, hu, hr⟩ := h.regs.cell k hk; exact ⟨u, hu, hr.rebase hC⟩⟩, Nat.le_trans hC h.lo, Nat.le_trans hC h.rlo, h.rcl⟩
/-- one step of a machine: a register and the number are set -/
theorem Mach.step {base : Nat} {w : World} {b rb rc : Nat} {ins regs : Int} {code : List Ins} {outs : List Int} {g : Grid} {n nt : Nat} {v : Value} {r : List Int} (h : Mach base w b rb rc ins regs code outs g n) (hv : PRow base w v r) (ht : nt < g.length) :
    Mach base ((w.setCell ⟨rb, nt, none⟩ v).setCell ⟨b, 5, none⟩ (.int .i64 ((n + 1 : Nat) : Int))) b rb rc ins regs code outs (g.set nt r) (n + 1) := by
  have hne : rb ≠ b := fun e => by have h1 := h.regs.ty; rw [e, h.ty] at h1; exact absurd h1 (by decide)
  have hk : Kp Sm w ((w.setCell ⟨rb, nt, none⟩ v).setCell ⟨b, 5, none⟩ (.int .i64 ((n + 1 : Nat) : Int))) := by
    refine ((Kp.refl Sm w).set (fun t ht => ?_) _).set (fun t ht => ?_) _
    · rw [h.regs.ty] at ht; cases ht; exact fun k => k.1 rfl
    · rw [typ_set, h.ty] at ht; cases ht; exact fun k => k.2 rfl
  have far : ∀ {o : Nat} {u : Value}, o ≠ 5 → w.cell? ⟨b, o, none⟩ = some u → ((w.setCell ⟨rb, nt, none⟩ v).setCell ⟨b, 5, none⟩ (.int .i64 ((n + 1 : Nat) : Int))).cell? ⟨b, o, none⟩ = some u := fun ho hc =>
    cell_far (cell_far hc (addr_ne hne) _) (fun e => ho (by cases e; rfl)) _
  obtain ⟨ca, cc, oa, oc, h1, h2, h3, h4, h5, h6⟩ := h.ex
  refine ⟨⟨ca, cc, oa, oc, far (by omega) h1, far (by omega) h2, h3.kp h5 hk smP, h4.kp h6 hk smN, h5.kp hk smP, h6.kp hk smN⟩, far (by omega) h.c0, far (by omega) h.c1, ?_, cell_here (cell_far h.c5 (addr_ne hne) _) _, (h.free.set _ _).set _ _, by rw [typ_set, typ_set]; exact h.ty, ⟨(h.regs.free.set _ _).set _ _, by rw [typ_set, typ_set]; exact h.regs.ty, fun k hk' => ?_⟩, h.lo, h.rlo, by rw [List.length_set]; exact h.rcl⟩
  · rw [List.length_set]; exact far (by omega) h.c4
  · rw [List.length_set] at hk'
    by_cases e : nt = k
    · subst e
      obtain ⟨u, hu, _⟩ := h.regs.cell nt hk'
      refine ⟨v, cell_far (cell_here hu _) (addr_ne (Ne.symm hne)) _, ?_⟩
      have : (g.set nt r).getD nt [] = r := by simp [hk']
      rw [this]
      exact hv.kp lims_int hk sm32 smI
    · obtain ⟨u, hu, hr⟩ := h.regs.cell k hk'
      refine ⟨u, cell_far (cell_far hu (fun e2 => e (by cases e2; rfl)) _) (addr_ne (Ne.symm hne)) _, ?_⟩
      have : (g.set nt r).getD k [] = g.getD k [] := by simp [List.getElem?_set_ne e]
      rw [this]
      exact hr.kp lims_int hk sm32 smI
theorem Mach.ne {base : Nat} {w : World} {b rb rc : Nat} {ins regs : Int} {code : List Ins} {outs : List Int} {g : Grid} {n : Nat} (h : Mach base w b rb rc ins regs code outs g n) : rb ≠ b := fun e => by
  have h1 := h.regs.ty; rw [e, h.ty] at h1; exact absurd h1 (by decide)
/-- a machine in the making: its registers lie in rv -/
structure MachP (base : Nat) (w : World) (b pb : Nat) (ins regs : Int) (code : List Ins) (outs : List Int) (rv : Value) : Prop where
  ex : ∃ ca cc oa oc, w.cell? ⟨b, 2, none⟩ = some (.slice ca code.length cc) ∧ w.cell? ⟨b, 3, none⟩ = some (.slice oa outs.length oc) ∧ InsV w ca cc code ∧ IntsV w oa oc outs ∧ FromA base 81 w ca ∧ FromA base 3 w oa
  c0 : w.cell? ⟨b, 0, none⟩ = some (.int .i64 ins)
  c1 : w.cell? ⟨b, 1, none⟩ = some (.int .i64 regs)
  c4 : w.cell? ⟨b, 4, none⟩ = some rv
  c5 : w.cell? ⟨b, 5, none⟩ = some (.int .i64 0)
  free : Free w b
  ty : typOf w b = some 79
  lo : base ≤ b
  p1 : w.cell? ⟨pb, 1, none⟩ = some (.int .i64 regs)
  pt : typOf w pb = some 25
section
variable {base : Nat} {w w' : World} {b pb : Nat} {ins regs : Int} {code : List Ins} {outs : List Int} {rv : Value}
theorem MachP.keep (h : MachP base w b pb ins regs code outs rv) (k : Below w.heap.size w w') : MachP base w' b pb ins regs code outs rv := by
  obtain ⟨ca, cc, oa, oc, h1, h2, h3, h4, h5, h6⟩ := h.ex
  exact ⟨⟨ca, cc, oa, oc, bkeep k h1, bkeep k h2, h3.keep k, h4.keep k, h5.keep k, h6.keep k⟩, bkeep k h.c0, bkeep k h.c1, bkeep k h.c4, bkeep k h.c5, h.free.keep k, typ_keep h.ty k, h.lo, bkeep k h.p1, typ_keep h.pt k⟩
theorem Free.kp {S : TypeId → Prop} {g : Nat} {t : TypeId} (h : Free w g) (k : Kp S w w') (ht : typOf w g = some t) (hs : S t) : Free w' g :=
  ⟨typ_lt (k.typ ht hs), fun j => k.frz ht hs (h.2 j)⟩
theorem MachP.kp (h : MachP base w b pb ins regs code outs rv) (k : Kp (· ≠ 31) w w') : MachP base w' b pb ins regs code outs rv := by
  obtain ⟨ca, cc, oa, oc, h1, h2, h3, h4, h5, h6⟩ := h.ex
  have hm : 79 ≠ 31 := by decide
  have hp : 25 ≠ 31 := by decide
  exact ⟨⟨ca, cc, oa, oc, k.cell h.ty hm h1, k.cell h.ty hm h2, h3.kp h5 k (by decide), h4.kp h6 k (by decide), h5.kp k (by decide), h6.kp k (by decide)⟩, k.cell h.ty hm h.c0, k.cell h.ty hm h.c1, k.cell h.ty hm h.c4, k.cell h.ty hm h.c5, h.free.kp k h.ty hm, k.typ h.ty hm, h.lo, k.cell h.pt hp h.p1, k.typ h.pt hp⟩
theorem MachP.set4 (h : MachP base w b pb ins regs code outs rv) (v : Value) : MachP base (w.setCell ⟨b, 4, none⟩ v) b pb ins regs code outs v := by
  have hk : Kp Sm w (w.setCell ⟨b, 4, none⟩ v) := (Kp.refl Sm w).set (fun t ht => by rw [h.ty] at ht; cases ht; exact fun k => k.2 rfl) _
  have far : ∀ {o : Nat} {u : Value}, o ≠ 4 → w.cell? ⟨b, o, none⟩ = some u → (w.setCell ⟨b, 4, none⟩ v).cell? ⟨b, o, none⟩ = some u := fun ho hc => cell_far hc (fun e => ho (by cases e; rfl)) _
  have hpb : b ≠ pb := fun e => by have h1 := h.pt; rw [← e, h.ty] at h1; exact absurd h1 (by decide)
  obtain ⟨ca, cc, oa, oc, h1, h2, h3, h4, h5, h6⟩ := h.ex
  exact ⟨⟨ca, cc, oa, oc, far (by omega) h1, far (by omega) h2, h3.kp h5 hk smP, h4.kp h6 hk smN, h5.kp hk smP, h6.kp hk smN⟩, far (by omega) h.c0, far (by omega) h.c1, cell_here h.c4 _, far (by omega) h.c5, h.free.set _ _, by rw [typ_set]; exact h.ty, h.lo, cell_far h.p1 (addr_ne hpb) _, by rw [typ_set]; exact h.pt⟩
/-- it is one -/
theorem MachP.mach {w0 : World} {g : Grid} (h : MachP w0.heap.size w b pb ins regs code outs rv) (hO : OwnL 31 (RowO IsInt 34 w0.heap.size) w0 w rv g) (hg : 0 < g.length) : ∃ rb rc, Mach w0.heap.size w b rb rc ins regs code outs g 0 := by
  obtain ⟨rb, rc, rfl, h1, h2, h3, h4, h5, h6⟩ := hO.blk hg
  refine ⟨rb, rc, h.ex, h.c0, h.c1, h.c4, h.c5, h.free, h.ty, ⟨h4, h5, fun k hk => ?_⟩, h.lo, h1, h2⟩
  obtain ⟨u, hu, hr⟩ := h6 k hk
  exact ⟨u, hu, by have : g.getD k [] = g[k] := by simp [hk]
                   rw [this]; exact hr.row⟩
end
end Go.Proofs.YtannhpadoooedaaDoor
/- vm: Step. -/
namespace Go.Proofs.YtannhpadoooedaaDoor
open Num
open Go.ChangeShapes Go.WideShapes Go.ChangeAt Go.RowKit
set_option linter.unusedVariables false
set_option linter.unusedSimpArgs false
attribute [local go_sem ↓] Go.wp_at_zero Go.wp_at_succ
section
variable {base : Nat} {w w' : World} {b rb rc : Nat} {ins regs : Int} {code : List Ins} {outs : List Int} {g : Grid} {n : Nat}
/-- what Step asks of the instruction at hand -/
structure InsOk (i : Ins) (regs : Nat) : Prop where
  o1 : 1 ≤ i.op
  o2 : i.op ≤ 8
  t0 : 0 ≤ i.to
  t1 : i.to < regs
  a0 : 0 ≤ i.a
  a1 : i.a < regs
  b0 : 0 ≤ i.b
  b1 : i.b < regs
  c : constB i.op i.c = true
theorem insOk_of {i : Ins} {regs : Nat} (h : mayB i.op i.to i.a i.b i.c regs = true) (h0 : 0 < regs) : InsOk i regs := by
  obtain ⟨h1, h2, h3, h4, h5, h6, h7, h8, h9⟩ := (mayB_iff ..).1 h
  cases e : twoB i.op with
  | true => exact ⟨h1, h2, h3, h4, h7, h8, (h9 e).1, (h9 e).2, h6⟩
  | false => have := h5 e; exact ⟨h1, h2, h3, h4, h7, h8, by omega, by omega, h6⟩
theorem out_below {X : Nat → Prop} {w0 : World} (h : Below w0.heap.size w0 w) (k : Out X w w') (hx : ∀ i, X i → w0.heap.size ≤ i) : Below w0.heap.size w0 w' :=
  h.trans (k.to_below (fun q hq _ hX => by have := hx q hX; omega) h.size)
end
/-- what Step answers at an instruction -/
def StepPost (base : Nat) (b rb rc : Nat) (ins regs : Int) (code : List Ins) (outs : List Int) (g : Grid) (n : Nat) (w : World) (e : Ending) (w' : World) : Prop :=
  match stepR (code.getD n default) (g.getD (code.getD n default).a.toNat []) (g.getD (code.getD n default).b.toNat []) with
  | some r => e = .returned (.int .i64 0) ∧ Mach base w' b rb rc ins regs code outs (g.set (code.getD n default).to.toNat r) (n + 1) ∧ Out (fun k => k = b ∨ k = rb) w w'
  | none => e = .returned (.int .i64 20) ∧ Below w.heap.size w w'
set_option maxRecDepth 100000 in
set_option maxHeartbeats 4000000 in
theorem step_end {base b rb rc : Nat} {ins regs : Int} {code : List Ins} {outs : List Int} {g : Grid} (w : World) (h : Mach base w b rb rc ins regs code outs g code.length) :
    Calls Tryd.prog 17 #[.pointer (some ⟨b, 0, none⟩)] w fun e w' => e = .returned (.int .i64 4) ∧ Below w.heap.size w w' := by
  obtain ⟨ca, cc, oa, oc, h1, h2, h3, h4, h5, h6⟩ := h.ex
  have h7 := h.c5
  clear h3 h4 h5 h6 h2
  go_enter Tryd.func17, Tryd.ntmps17
  go_wp2
  go_quiet (fail)
  go_wp2
  go_ret
  exact ⟨rfl, by repeat (first | exact Below.refl _ _ | refine below_drewN ?_ _)⟩
theorem stepPost_none {base b rb rc : Nat} {ins regs : Int} {code : List Ins} {outs : List Int} {g : Grid} {n : Nat} {w w' : World} (h : stepR (code.getD n default) (g.getD (code.getD n default).a.toNat []) (g.getD (code.getD n default).b.toNat []) = none) (hb : Below w.heap.size w w') :
    StepPost base b rb rc ins regs code outs g n w (.returned (.int .i64 20)) w' := by
  unfold StepPost; rw [h]; exact ⟨rfl, hb⟩
theorem stepPost_some {base b rb rc : Nat} {ins regs : Int} {code : List Ins} {outs : List Int} {g : Grid} {n : Nat} {w w' : World} {r : List Int} (h : stepR (code.getD n default) (g.getD (code.getD n default).a.toNat []) (g.getD (code.getD n default).b.toNat []) = some r)
    (hm : Mach base w' b rb rc ins regs code outs (g.set (code.getD n default).to.toNat r) (n + 1)) (ho : Out (fun k => k = b ∨ k = rb) w w') : StepPost base b rb rc ins regs code outs g n w (.returned (.int .i64 0)) w' := by
  unfold StepPost; rw [h]; exact ⟨rfl, hm, ho⟩
/-- a row's value, and the numbers that lie behind it -/
theorem PRow.view {base : Nat} {w : World} {v : Value} {l : List Int} (h : PRow base w v l) : ∃ a c, v = .slice a l.length c ∧ l.length ≤ c ∧ ∀ j, j < l.length → ∃ b off nb ad len cp, a = some ⟨b, off, none⟩ ∧ w.cell? ⟨b, off + j * 2, none⟩ = some (.bool nb) ∧ w.cell? ⟨b, off + j * 2 + 1, none⟩ = some (.slice ad len cp) ∧ IsInt w (.agg #[.bool nb, .slice ad len cp]) (l.getD j 0) := by
  obtain ⟨a, c, h1, h2, h3, h4⟩ := h
  refine ⟨a, c, h1, h2, fun j hj => ?_⟩
  rcases h4 with h4 | ⟨b, off, ha, hb, ht, hi⟩
  · rw [h4] at hj; simp at hj
  · obtain ⟨nb, ad, len, cp, k1, k2, k3⟩ := hi j hj
    exact ⟨b, off, nb, ad, len, cp, ha, k1, k2, k3⟩
/-- a variable of two cells that was made before a call -/
theorem box2 {w w5 : World} {c0 c1 : Value} {T : TypeId} (h : Below (w.alloc (.cells #[c0, c1] T)).drew.heap.size (w.alloc (.cells #[c0, c1] T)).drew w5) :
    w5.cell? ⟨w.heap.size, 0, none⟩ = some c0 ∧ w5.cell? ⟨w.heap.size, 1, none⟩ = some c1 ∧ w5.frozen? ⟨w.heap.size, 0, none⟩ = false ∧ w5.frozen? ⟨w.heap.size, 1, none⟩ = false := by
  have k0 : (w.alloc (.cells #[c0, c1] T)).drew.cell? ⟨w.heap.size, 0, none⟩ = some c0 := cell_drew (cell_new rfl rfl)
  have k1 : (w.alloc (.cells #[c0, c1] T)).drew.cell? ⟨w.heap.size, 1, none⟩ = some c1 := cell_drew (cell_new rfl rfl)
  have hf := (Free.new (w := w) (c := #[c0, c1]) (t := T) rfl).2
  exact ⟨bkeep h k0, bkeep h k1, bkeepf h k0 (hf 0), bkeepf h k1 (hf 1)⟩
/-- the numbers that a round has found, noughts behind them -/
def upto (f : Nat → Int) (k : Nat) : Nat → Int := fun j => if j < k then f j else 0
theorem upto_zero (f : Nat → Int) : upto f 0 = fun _ => 0 := by funext j; simp [upto]
theorem upto_succ (f : Nat → Int) (k : Nat) (z : Int) (h : f k = z) : (fun j => if j = k then z else upto f k j) = upto f (k + 1) := by
  funext j
  unfold upto
  by_cases e : j = k
  · subst e; rw [if_pos rfl, if_pos (by omega), h]
  · rw [if_neg e]
    by_cases e2 : j < k
    · rw [if_pos e2, if_pos (by omega)]
    · rw [if_neg e2, if_neg (by omega)]
set_option maxRecDepth 100000 in
set_option maxHeartbeats 16000000 in
theorem step_c {base b rb rc m k : Nat} {ins regs : Int} {code : List Ins} {outs : List Int} {g : Grid} {n : Nat} (w : World) (h : Mach base w b rb rc ins regs code outs g n) (hn : n < code.length) (hcl : code.length ≤ 16384)
    (hi : InsOk (code.getD n default) g.length) (hr : Rect m g) (hm : m ≤ 4096) (hb : BdG k g) (hk : k ≤ 4294967296) (hT : Tz32 w) :
    Calls Tryd.prog 17 #[.pointer (some ⟨b, 0, none⟩)] w (StepPost base b rb rc ins regs code outs g n w) := by
  have HP := Lib.hid h
  have HT := Lib.hid hT
  obtain ⟨ca, cc, oa, oc, h1, h2, h3, h4, h5, h6⟩ := h.ex
  have h7 := h.c5
  have hg4 := h.c4
  rcases h3 with h3 | ⟨cb, co, rfl, h8, h9⟩
  · rw [h3] at hn; simp at hn
  obtain ⟨q0, q1, q2, q3, q4⟩ := h9 n hn
  have doc := fun W h => does_c (code.getD n default) k W hi.o1 hi.o2 hi.c hk h
  obtain ⟨o1, o2, t0, t1, a0, a1, b0, b1, hc⟩ := hi
  obtain ⟨i, hiE⟩ : ∃ i, code.getD n default = i := ⟨_, rfl⟩
  have HI := Lib.hid hiE
  rw [hiE] at q0 q1 q2 q3 q4 t0 t1 a0 a1 b0 b1 doc
  clear hiE h9 h4 h5 h6 h2 hc o1 o2 h hT
  obtain ⟨op, it, ia, ib, ic⟩ := i
  dsimp only at q0 q1 q2 q3 q4 t0 t1 a0 a1 b0 b1
  obtain ⟨nt, rfl⟩ : ∃ x : Nat, it = x := ⟨it.toNat, by omega⟩
  obtain ⟨na, rfl⟩ : ∃ x : Nat, ia = x := ⟨ia.toNat, by omega⟩
  obtain ⟨nb, rfl⟩ : ∃ x : Nat, ib = x := ⟨ib.toNat, by omega⟩
  have t1' : nt < g.length := by omega
  have a1' : na < g.length := by omega
  have b1' : nb < g.length := by omega
  clear t0 t1 a0 a1 b0 b1
  obtain ⟨ua, ha1, ha2⟩ := HP.out.regs.cell na a1'
  obtain ⟨ub, hb1, hb2⟩ := HP.out.regs.cell nb b1'
  obtain ⟨ut, ht1, ht2⟩ := HP.out.regs.cell nt t1'
  have HLA := Lib.hid (hr na a1')
  have HLB := Lib.hid (hr nb b1')
  have HBA := Lib.hid (hb.row na)
  have HBB := Lib.hid (hb.row nb)
  obtain ⟨Ra, hRa⟩ : ∃ R, g.getD na [] = R := ⟨_, rfl⟩
  obtain ⟨Rb, hRb⟩ : ∃ R, g.getD nb [] = R := ⟨_, rfl⟩
  have HRA := Lib.hid (And.intro hRa hRb)
  rw [hRa] at HLA HBA ha2
  rw [hRb] at HLB HBB hb2
  clear hRa hRb hr hb
  obtain ⟨aa, xa, rfl, -, va⟩ := ha2.view
  obtain ⟨ab, xb, rfl, -, vb⟩ := hb2.view
  rw [HLA.out] at va ha1
  rw [HLB.out] at vb hb1
  have HVA := Lib.hid va
  have HVB := Lib.hid vb
  clear va vb ha2 hb2 ht2
  have hB := Below.refl w.heap.size w
  have hn1 : (n : Int) < (code.length : Int) := by omega
  have hn2 : decide (n = code.length) = false := by simp; omega
  have hn3 : ((n : Int) == (code.length : Int)) = false := by simp; omega
  have hga : (na : Int) < (g.length : Int) := by omega
  have hgb : (nb : Int) < (g.length : Int) := by omega
  have hgt : (nt : Int) < (g.length : Int) := by omega
  have hmk := mkInts m (by omega)
  have HS := Lib.hid (show ∀ W, Below w.heap.size w W → W.cell? ⟨b, 2, none⟩ = some (.slice (some ⟨cb, co, none⟩) code.length cc) ∧ W.cell? ⟨b, 5, none⟩ = some (.int .i64 n) ∧ W.cell? ⟨cb, co + n * 5, none⟩ = some (.int .i64 op) ∧ W.cell? ⟨cb, co + n * 5 + 1, none⟩ = some (.int .i64 nt) ∧ W.cell? ⟨cb, co + n * 5 + 2, none⟩ = some (.int .i64 na) ∧ W.cell? ⟨cb, co + n * 5 + 3, none⟩ = some (.int .i64 nb) ∧ W.cell? ⟨cb, co + n * 5 + 4, none⟩ = some (.int .i64 ic) from fun W h => ⟨bkeep h h1, bkeep h h7, bkeep h q0, bkeep h q1, bkeep h q2, bkeep h q3, bkeep h q4⟩)
  have HG := Lib.hid (show ∀ W, Below w.heap.size w W → W.cell? ⟨b, 4, none⟩ = some (.slice (some ⟨rb, 0, none⟩) g.length rc) ∧ W.cell? ⟨rb, na, none⟩ = some (.slice aa m xa) ∧ W.cell? ⟨rb, nb, none⟩ = some (.slice ab m xb) ∧ W.cell? ⟨rb, nt, none⟩ = some ut from fun W h => ⟨bkeep h hg4, bkeep h ha1, bkeep h hb1, bkeep h ht1⟩)
  clear ha1 hb1 ht1 hg4
  go_enter Tryd.func17, Tryd.ntmps17
  go_wp2
  go_quiet (fail)
  go_wp2
  refine wp_name fun w0 hW0 => ?_
  have hB0 : Below w.heap.size w w0 := by rw [hW0]; repeat (first | exact Below.refl _ _ | exact hB | refine Below.drew ?_ | refine below_drewN ?_ _ | refine bset ?_ (by simp <;> omega) _ | refine bal ?_ _)
  clear h1 h7 q0 q1 q2 q3 q4
  obtain ⟨h1, h7, q0, q1, q2, q3, q4⟩ := HS.out w0 hB0
  have zb := cell_lt h1
  have zcb := cell_lt q0
  clear hW0
  have HS0 := Lib.hid (show ∀ W, Below w0.heap.size w0 W → _ from fun W h => HS.out W (bthen hB0 h))
  have hB := Below.refl w0.heap.size w0
  go_region_held3 (fun w' => w'.cell? ⟨b, 2, none⟩ = some (.slice (some ⟨cb, co, none⟩) code.length cc) ∧ w'.cell? ⟨b, 5, none⟩ = some (.int .i64 n) ∧ w'.cell? ⟨cb, co + n * 5, none⟩ = some (.int .i64 op) ∧ w'.cell? ⟨cb, co + n * 5 + 1, none⟩ = some (.int .i64 nt) ∧ w'.cell? ⟨cb, co + n * 5 + 2, none⟩ = some (.int .i64 na) ∧ w'.cell? ⟨cb, co + n * 5 + 3, none⟩ = some (.int .i64 nb) ∧ w'.cell? ⟨cb, co + n * 5 + 4, none⟩ = some (.int .i64 ic))
    (exact HS0.out _ (by repeat (first | exact Below.refl _ _ | exact hB | refine Below.drew ?_ | refine below_drewN ?_ _ | refine bset ?_ (by simp <;> omega) _ | refine bal ?_ _)))
    (fail)
  clear h1 h7 q0 q1 q2 q3 q4 zb zcb
  go_wp2_with fail
  refine ((show Calls Tryd.prog _ #[.agg #[.int .i64 op, .int .i64 nt, .int .i64 na, .int .i64 nb, .int .i64 ic]] _ _ from doc _ (HT.out.keep (bthen hB0 (by repeat (first | exact Below.refl _ _ | exact hB | refine Below.drew ?_ | refine below_drewN ?_ _ | refine bset ?_ (by simp <;> omega) _ | refine bal ?_ _)))))).mono ?_
  rintro e w2 ⟨F, caps, rfl, eF, hF, hb2⟩
  have hB2 : Below w.heap.size w w2 := bthen (bthen hB0 (by repeat (first | exact Below.refl _ _ | exact hB | refine Below.drew ?_ | refine below_drewN ?_ _ | refine bset ?_ (by simp <;> omega) _ | refine bal ?_ _))) hb2
  obtain ⟨g4, g5, g6, g7⟩ := HG.out w2 hB2
  have i1 : w2.cell? ⟨w0.heap.size, 1, none⟩ = some (.int .i64 nt) := bkeep hb2 (cell_drew (cell_new rfl rfl))
  have i2 : w2.cell? ⟨w0.heap.size, 2, none⟩ = some (.int .i64 na) := bkeep hb2 (cell_drew (cell_new rfl rfl))
  have i3 : w2.cell? ⟨w0.heap.size, 3, none⟩ = some (.int .i64 nb) := bkeep hb2 (cell_drew (cell_new rfl rfl))
  unfold fv
  unfold Enters at eF
  have HF := Lib.hid hF
  clear hF doc
  have HK := Lib.hid (show ∀ R, stepR ⟨op, nt, na, nb, ic⟩ Ra Rb = R → stepR (code.getD n default) (g.getD (code.getD n default).a.toNat []) (g.getD (code.getD n default).b.toNat []) = R from fun R h => by
    rw [HI.out]
    dsimp only
    rw [Int.toNat_natCast, Int.toNat_natCast, HRA.out.1, HRA.out.2]; exact h)
  obtain ⟨f, hf⟩ : ∃ f : Nat → Int, f = fun j => (opI ⟨op, nt, na, nb, ic⟩ (Ra.getD j 0) (Rb.getD j 0)).getD 0 := ⟨_, rfl⟩
  have HFF := Lib.hid hf
  clear hf
  have hBq := Below.refl w2.heap.size w2
  go_wp2
  go_quiet (fail)
  go_wp2
  refine wp_name fun w3 hW3 => ?_
  have hb3 : Below w2.heap.size w2 w3 := by rw [hW3]; repeat (first | exact Below.refl _ _ | exact hBq | refine Below.drew ?_ | refine below_drewN ?_ _ | refine bset ?_ (by simp <;> omega) _ | refine bal ?_ _)
  have hI3 : IntsF IsInt w3 w2.heap.size 0 m (upto f 0) := by rw [hW3, upto_zero]; exact zcel_ints isInt_zero _ m _ rfl
  have hF3 : Free w3 w2.heap.size := by rw [hW3]; exact Free.new rfl
  have hT3 : Hid (typOf w3 w2.heap.size = some 34) := Lib.hid (by rw [hW3]; unfold typOf; rw [show ((w2.drewN nq).alloc (.cells (zcel m) 34)).heap[w2.heap.size]? = _ from (MapKept.heap_alloc (w2.drewN nq) _).1])
  have HI1 := Lib.hid i1
  clear hW3 hmk g4 g5 g6 g7 i1 i2 i3
  go_loopw [60] (fun x wr => ∃ j : Nat, j ≤ m ∧ x = .int .i64 j ∧ Below w2.heap.size w2 wr ∧ IntsF IsInt wr w2.heap.size 0 m (upto f j) ∧ Free wr w2.heap.size ∧ Hid (typOf wr w2.heap.size = some 34) ∧ Hid (∀ q, q < j → (opI ⟨op, nt, na, nb, ic⟩ (Ra.getD q 0) (Rb.getD q 0)).isSome = true)) (fun x _ => m - (intOf x).toNat)
  case atStart => exact ⟨0, Nat.zero_le _, rfl, hb3, hI3, hF3, hT3, Lib.hid (fun q hq => by omega)⟩
  case round =>
    clear hb3 hI3 hF3 hT3
    obtain ⟨j, hj, rfl, hbr, hIr, hFr, hTr, hall⟩ := hrel
    have hBr : Below w.heap.size w wr := bthen hB2 hbr
    have HIR := Lib.hid (And.intro hIr hFr)
    clear hIr hFr
    by_cases hlt : j < m
    · have hltI : (j : Int) < (m : Int) := by omega
      obtain ⟨ba, oa', n1, ad1, l1, cp1, rfl, ca1, ca2, hia⟩ := HVA.out j hlt
      obtain ⟨bb, ob', n2, ad2, l2, cp2, rfl, cb1, cb2, hib⟩ := HVB.out j hlt
      have fc := fun W (h : Below wr.heap.size wr W) => HF.out W _ _ _ _ (bthen hbr h) (hia.keep (bthen hBr h)) (hib.keep (bthen hBr h)) (HBA.out j) (HBB.out j)
      have HS2 := Lib.hid (show ∀ W, Below wr.heap.size wr W → W.cell? ⟨ba, oa' + j * 2, none⟩ = some (.bool n1) ∧ W.cell? ⟨ba, oa' + j * 2 + 1, none⟩ = some (.slice ad1 l1 cp1) ∧ W.cell? ⟨bb, ob' + j * 2, none⟩ = some (.bool n2) ∧ W.cell? ⟨bb, ob' + j * 2 + 1, none⟩ = some (.slice ad2 l2 cp2) from fun W h => ⟨bkeep (bthen hBr h) ca1, bkeep (bthen hBr h) ca2, bkeep (bthen hBr h) cb1, bkeep (bthen hBr h) cb2⟩)
      clear ca1 ca2 cb1 cb2 hia hib
      have hBw := Below.refl wr.heap.size wr
      obtain ⟨x1, x2, x3, x4⟩ := HS2.out wr hBw
      unfold AnsO at fc
      cases hz : opI ⟨op, nt, na, nb, ic⟩ (Ra.getD j 0) (Rb.getD j 0) with
      | none =>
        rw [hz] at fc
        dsimp only at fc
        have HST := Lib.hid (HK.out none (stepR_fail (k := j) (by rw [HLA.out]; exact hlt) hz))
        clear hz
        go_wp2
        go_region_held3 (fun w' => w'.cell? ⟨ba, oa' + j * 2, none⟩ = some (.bool n1) ∧ w'.cell? ⟨ba, oa' + j * 2 + 1, none⟩ = some (.slice ad1 l1 cp1) ∧ w'.cell? ⟨bb, ob' + j * 2, none⟩ = some (.bool n2) ∧ w'.cell? ⟨bb, ob' + j * 2 + 1, none⟩ = some (.slice ad2 l2 cp2))
          (first | (refine HS2.out _ ?_; (repeat (first | exact Below.refl _ _ | exact hBw | refine Below.drew ?_ | refine below_drewN ?_ _ | refine bset ?_ (by simp <;> omega) _ | refine bal ?_ _)); done) | (refine HS2.out _ ?_; (repeat (first | exact Below.refl _ _ | exact hB5 | refine Below.drew ?_ | refine below_drewN ?_ _ | refine bset ?_ (by simp <;> omega) _ | refine bal ?_ _)); done) | fail)
          (first
            | (go_at_fn F; (with_reducible show Calls _ _ _ (World.drew (World.alloc _ _)) _); refine (fc _ ?_).mono ?_; (repeat (first | exact Below.refl _ _ | exact hBw | refine Below.drew ?_ | refine below_drewN ?_ _ | refine bset ?_ (by simp <;> omega) _ | refine bal ?_ _)); rintro e w5 ⟨rfl, hb5⟩; have hB5 : Below wr.heap.size wr w5 := bthen (by repeat (first | exact Below.refl _ _ | exact hBw | refine Below.drew ?_ | refine below_drewN ?_ _ | refine bset ?_ (by simp <;> omega) _ | refine bal ?_ _)) hb5; obtain ⟨r0, r1, r0f, r1f⟩ := box2 hb5)
            | (go_at_fn F; refine (fc _ ?_).mono ?_; (repeat (first | exact Below.refl _ _ | exact hBw | refine Below.drew ?_ | refine below_drewN ?_ _ | refine bset ?_ (by simp <;> omega) _ | refine bal ?_ _)); rintro e w5 ⟨rfl, hb5⟩; have hB5 : Below wr.heap.size wr w5 := bthen (by repeat (first | exact Below.refl _ _ | exact hBw | refine Below.drew ?_ | refine below_drewN ?_ _ | refine bset ?_ (by simp <;> omega) _ | refine bal ?_ _)) hb5)
            | fail)
        all_goals
          go_wp2
          go_ret
          refine stepPost_none HST.out (bthen hBr ?_)
          repeat (first | exact hB5 | refine bset ?_ (Nat.le_refl _) _ | refine bal ?_ _)
      | some z =>
        rw [hz] at fc
        dsimp only at fc
        have HZ := Lib.hid hz
        clear hz
        go_wp2
        go_region_held3 (fun w' => w'.cell? ⟨ba, oa' + j * 2, none⟩ = some (.bool n1) ∧ w'.cell? ⟨ba, oa' + j * 2 + 1, none⟩ = some (.slice ad1 l1 cp1) ∧ w'.cell? ⟨bb, ob' + j * 2, none⟩ = some (.bool n2) ∧ w'.cell? ⟨bb, ob' + j * 2 + 1, none⟩ = some (.slice ad2 l2 cp2))
          (first | (refine HS2.out _ ?_; (repeat (first | exact Below.refl _ _ | exact hBw | refine Below.drew ?_ | refine below_drewN ?_ _ | refine bset ?_ (by simp <;> omega) _ | refine bal ?_ _)); done) | (refine HS2.out _ ?_; (repeat (first | exact Below.refl _ _ | exact hB5 | refine Below.drew ?_ | refine below_drewN ?_ _ | refine bset ?_ (by simp <;> omega) _ | refine bal ?_ _)); done) | fail)
          (first
            | (go_at_fn F; (with_reducible show Calls _ _ _ (World.drew (World.alloc _ _)) _); refine (fc _ ?_).mono ?_; (repeat (first | exact Below.refl _ _ | exact hBw | refine Below.drew ?_ | refine below_drewN ?_ _ | refine bset ?_ (by simp <;> omega) _ | refine bal ?_ _)); rintro e w5 ⟨⟨v, rfl, hv⟩, hb5⟩; have hB5 : Below wr.heap.size wr w5 := bthen (by repeat (first | exact Below.refl _ _ | exact hBw | refine Below.drew ?_ | refine below_drewN ?_ _ | refine bset ?_ (by simp <;> omega) _ | refine bal ?_ _)) hb5; have HV := Lib.hid hv; obtain ⟨n5, a5, c5, l5, rfl, -⟩ := hv; obtain ⟨r0, r1, r0f, r1f⟩ := box2 hb5; unfold iv at *)
            | (go_at_fn F; refine (fc _ ?_).mono ?_; (repeat (first | exact Below.refl _ _ | exact hBw | refine Below.drew ?_ | refine below_drewN ?_ _ | refine bset ?_ (by simp <;> omega) _ | refine bal ?_ _)); rintro e w5 ⟨⟨v, rfl, hv⟩, hb5⟩; have hB5 : Below wr.heap.size wr w5 := bthen (by repeat (first | exact Below.refl _ _ | exact hBw | refine Below.drew ?_ | refine below_drewN ?_ _ | refine bset ?_ (by simp <;> omega) _ | refine bal ?_ _)) hb5; have HV := Lib.hid hv; obtain ⟨n5, a5, c5, l5, rfl, -⟩ := hv; unfold iv at *)
            | fail)
        ·
          go_upto_region 15 with (fail)
          refine wp_name fun w6 hW6 => ?_
          have hB6 : Below wr.heap.size wr w6 := by rw [hW6]; exact bal hB5 _
          have p0 : w6.cell? ⟨w5.heap.size, 0, none⟩ = some (.bool n5) := by rw [hW6]; exact cell_new rfl rfl
          have p1 : w6.cell? ⟨w5.heap.size, 1, none⟩ = some (.slice a5 l5.length c5) := by rw [hW6]; exact cell_new rfl rfl
          have HV6 : Hid (IsInt w6 (.agg #[.bool n5, .slice a5 l5.length c5]) z) := Lib.hid (by rw [hW6]; exact HV.out.keep (bal (Below.refl _ _) _))
          clear hW6
          have hI6 := HIR.out.1.keep lims_int hB6
          have hF6 := HIR.out.2.keep hB6
          obtain ⟨nx, ax, lx, cx, o0, o1, -⟩ := hI6.at0 hlt
          have of0 := hF6.2 (j * 2)
          have of1 := hF6.2 (j * 2 + 1)
          have HI6 := Lib.hid (IntsF.store0 lims_int hI6 hlt HV6.out)
          have HF6 := Lib.hid hF6
          have HT6 := Lib.hid (typ_keep hTr.out hB6)
          clear hI6 hF6
          have hb26 := bthen hbr hB6
          have zo := cell_lt o0
          have zx := cell_lt p0
          have HU := Lib.hid (upto_succ f j z (by rw [HFF.out]; dsimp only; rw [HZ.out]; rfl))
          have HN := Lib.hid (show ∀ q, q < j + 1 → (opI ⟨op, nt, na, nb, ic⟩ (Ra.getD q 0) (Rb.getD q 0)).isSome = true from fun q hq => by
            by_cases e : q = j
            · subst e; rw [HZ.out]; rfl
            · exact hall.out q (by omega))
          go_wp2
          refine ⟨⟨j + 1, by omega, by go_num, bset (bset hb26 (Nat.le_refl _) _) (Nat.le_refl _) _, ?_, (HF6.out.set _ _).set _ _, Lib.hid (by rw [typ_set, typ_set]; exact HT6.out), HN⟩, by simp [intOf]; omega⟩
          rw [← HU.out]; exact HI6.out
        ·
          go_upto_region 15 with (fail)
          refine wp_name fun w6 hW6 => ?_
          have hB6 : Below wr.heap.size wr w6 := by rw [hW6]; exact bset (bset hB5 (Nat.le_refl _) _) (Nat.le_refl _) _
          have p0 : w6.cell? ⟨wr.heap.size, 0, none⟩ = some (.bool n5) := by rw [hW6]; exact cell_far (cell_here r0 _) (by simp) _
          have p1 : w6.cell? ⟨wr.heap.size, 1, none⟩ = some (.slice a5 l5.length c5) := by rw [hW6]; exact cell_here (cell_far r1 (by simp) _) _
          have HV6 : Hid (IsInt w6 (.agg #[.bool n5, .slice a5 l5.length c5]) z) := Lib.hid (by rw [hW6]; exact HV.out.put2 r0 r1 _ _)
          clear hW6
          have hI6 := HIR.out.1.keep lims_int hB6
          have hF6 := HIR.out.2.keep hB6
          obtain ⟨nx, ax, lx, cx, o0, o1, -⟩ := hI6.at0 hlt
          have of0 := hF6.2 (j * 2)
          have of1 := hF6.2 (j * 2 + 1)
          have HI6 := Lib.hid (IntsF.store0 lims_int hI6 hlt HV6.out)
          have HF6 := Lib.hid hF6
          have HT6 := Lib.hid (typ_keep hTr.out hB6)
          clear hI6 hF6
          have hb26 := bthen hbr hB6
          have zo := cell_lt o0
          have zx := cell_lt p0
          have HU := Lib.hid (upto_succ f j z (by rw [HFF.out]; dsimp only; rw [HZ.out]; rfl))
          have HN := Lib.hid (show ∀ q, q < j + 1 → (opI ⟨op, nt, na, nb, ic⟩ (Ra.getD q 0) (Rb.getD q 0)).isSome = true from fun q hq => by
            by_cases e : q = j
            · subst e; rw [HZ.out]; rfl
            · exact hall.out q (by omega))
          go_wp2
          refine ⟨⟨j + 1, by omega, by go_num, bset (bset hb26 (Nat.le_refl _) _) (Nat.le_refl _) _, ?_, (HF6.out.set _ _).set _ _, Lib.hid (by rw [typ_set, typ_set]; exact HT6.out), HN⟩, by simp [intOf]; omega⟩
          rw [← HU.out]; exact HI6.out
    · obtain rfl : j = m := by omega
      have HST := Lib.hid (HK.out (some ((List.range j).map f)) (stepR_ext (by simp [HLA.out]) (fun q hq => by
        rw [HLA.out] at hq
        obtain ⟨z, hz⟩ := Option.isSome_iff_exists.1 (hall.out q hq)
        rw [hz, HFF.out]; simp [hq]; simp at hz; rw [hz]; rfl)))
      have HROW : Hid (PRow base wr (.slice (some ⟨w2.heap.size, 0, none⟩) j j) ((List.range j).map f)) := Lib.hid (by
        refine ⟨some ⟨w2.heap.size, 0, none⟩, j, by simp, by simp, by unfold maxLen; omega, .inr ⟨w2.heap.size, 0, rfl, ?_, hTr.out, ?_⟩⟩
        · have h1 := HP.out.lo; have h2 := cell_lt HP.out.c0; have h3 := hB2.size; omega
        · rw [List.length_map, List.length_range]
          exact HIR.out.1.congr fun q hq => by simp [upto, hq])
      obtain ⟨g4, g5, g6, g7⟩ := HG.out wr hBr
      have i1 : wr.cell? ⟨w0.heap.size, 1, none⟩ = some (.int .i64 nt) := bkeep hbr (HI1.out)
      have h7 := (HS.out wr hBr).2.1
      have HM := Lib.hid (HP.out.keep hBr)
      have hne := HM.out.ne
      have hne' := Ne.symm hne
      have f0 := HM.out.regs.free.2 nt
      have f5 := HM.out.free.2 5
      clear hall hTr
      go_wp2
      go_region
      all_goals
        go_wp2
        go_ret
        refine stepPost_some HST.out ?_ ?_
        · rw [HI.out]
          dsimp only
          rw [Int.toNat_natCast, show ((n : Int) + 1) = ((n + 1 : Nat) : Int) from rfl]
          exact (HM.out.step HROW.out t1').keep ((Below.refl _ _).drew)
        · exact (((Out.of_below _ hBr).set (fun _ => .inr rfl) _).set (fun _ => .inl rfl) _).drew
end Go.Proofs.YtannhpadoooedaaDoor
