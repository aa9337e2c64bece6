/- Texts of this seat, laid together: DnC, DnD, DnE, RxB, DnF, DnT. What each theorem proves, and under which conditions, its statement says. -/
import Derived.Test.YtbmaffijncapiaaGreatDoorB19
set_option maxRecDepth 100000
set_option maxHeartbeats 32000000
set_option linter.unusedVariables false
set_option linter.unusedSimpArgs false
namespace Go.Proofs.YtbmaffijncapiaaGreatDoor
open Go.ChangeShapes Go.WideShapes Go.ChangeAt Go.RowKit
section
open Num
attribute [local go_sem ↓] Go.wp_at_zero Go.wp_at_succ
def zcelQ (n : Nat) : Array Value := madeCells #[.bool false, .slice none 0 0, .bool false, .slice none 0 0] (n * 4)
theorem zcelQ_at {n k : Nat} (h : k < n) : (zcelQ n)[k * 4]? = some (.bool false) ∧ (zcelQ n)[k * 4 + 1]? = some (.slice none 0 0) ∧ (zcelQ n)[k * 4 + 2]? = some (.bool false) ∧ (zcelQ n)[k * 4 + 3]? = some (.slice none 0 0) := by
 unfold zcelQ madeCells
 have e1 : (k * 4 + 1) % 4 = 1 := by omega
 have e2 : (k * 4 + 2) % 4 = 2 := by omega
 have e3 : (k * 4 + 3) % 4 = 3 := by omega
 refine ⟨?_, ?_, ?_, ?_⟩
 · simp [Array.getElem?_map, Array.getElem?_range, show k * 4 < n * 4 from by omega]
 · simp [Array.getElem?_map, Array.getElem?_range, show k * 4 + 1 < n * 4 from by omega, e1]
 · simp [Array.getElem?_map, Array.getElem?_range, show k * 4 + 2 < n * 4 from by omega, e2]
 · simp [Array.getElem?_map, Array.getElem?_range, show k * 4 + 3 < n * 4 from by omega, e3]
theorem zcelQ_blk (w : World) (n : Nat) {g : Nat} (hg : g = w.heap.size) : FrBlk IsQP 79 (w.alloc (.cells (zcelQ n) 79)) g n (fun _ => 0) := by
 subst hg
 refine ⟨typ_fresh rfl, Free.new rfl, fun k hk => ?_⟩
 obtain ⟨h0, h1, h2, h3⟩ := zcelQ_at hk
 exact ⟨false, none, 0, 0, false, none, 0, 0, cell_new rfl h0, cell_new rfl h1, cell_new rfl h2, cell_new rfl h3, IsQP.zero _⟩
theorem mkRats (n : Nat) (hn : n ≤ 1099511627776) (w : World) : (Instr.makeSlice 38 (.int .i64 (n : Int)) (.int .i64 (n : Int))).run Tryz.prog w = .ok (.slice (some ⟨w.heap.size, 0, none⟩) n n) (w.alloc (.cells (zcelQ n) 79)) := by
 obtain ⟨i0, hi, hz0, hz1, hz2⟩ := info_parts infoRat
 rw [run_make w _ _ i0 _ Tryz.underlying38 hi hz0 .i64 .i64 n n (by omega) (by omega) (by rw [hz2]; omega) (by omega), hz1]
 rfl
def FRow (base : Nat) (w : World) (v : Value) (L : List Rat) : Prop := FrRow IsQP 79 base w v L
theorem FRow.keep {base : Nat} {w w' : World} {v : Value} {L : List Rat} (h : FRow base w v L) (k : Below w.heap.size w w') : FRow base w' v L := FrRow.keep frk_prog h k
def FRowX (S : Nat → Prop) (w : World) (v : Value) (L : List Rat) : Prop := FRow 0 w v L ∧ (L = [] ∨ ∀ b, rowBlk v = some b → ¬ S b)
section
variable {S S' : Nat → Prop} {w w' : World} {v : Value} {L : List Rat} {base : Nat}
theorem FRowX.keep (h : FRowX S w v L) (k : Below w.heap.size w w') : FRowX S w' v L := ⟨h.1.keep k, h.2⟩
theorem FRowX.of (h : FRow base w v L) (hS : ∀ q, S q → q < base) : FRowX S w v L := by
 refine ⟨FrRow.rebase h (Nat.zero_le _), ?_⟩
 obtain ⟨a, c, rfl, _, h4⟩ := h
 rcases h4 with h4 | ⟨b, off, rfl, hb, _⟩
 · exact .inl h4
 · refine .inr fun q hq hs => ?_
   simp [rowBlk] at hq
   subst hq
   have := hS _ hs
   omega
theorem FRowX.told (h : FRowX S w v L) (ho : OutT S w w') (hS : Soil S w) (hg : Grew S S' w) : FRowX S' w' v L := by
 obtain ⟨⟨a, c, rfl, h1, h4⟩, hx⟩ := h
 rcases h4 with h4 | ⟨b, off, rfl, hb, ht, hi⟩
 · exact ⟨⟨a, c, rfl, h1, .inl h4⟩, .inl h4⟩
 · rcases hx with hx | hx
   · exact ⟨⟨_, c, rfl, h1, .inl hx⟩, .inl hx⟩
   · have hn : ¬ S b := hx b rfl
     have e := ho.1.block b (typ_lt ht) hn
     refine ⟨⟨_, c, rfl, h1, .inr ⟨b, off, rfl, hb, by rw [typ_of_block (w := w) e]; exact ht, fun k hk => (hi k hk).stay frk_prog e (ho.lim hS)⟩⟩, .inr fun q hq hs => ?_⟩
     simp [rowBlk] at hq
     subst hq
     rcases hg _ hs with h | h
     · exact hn h
     · have := typ_lt ht; omega
end
structure RegsF (S : Nat → Prop) (w : World) (rb : Nat) (g : GridF) : Prop where
 free : Free w rb
 ty : typOf w rb = some 38
 cell : ∀ k, k < g.length → ∃ u, w.cell? ⟨rb, k, none⟩ = some u ∧ FRowX S w u (g.getD k [])
section
variable {S S' : Nat → Prop} {w w' : World} {rb : Nat} {g : GridF}
theorem RegsF.keep (h : RegsF S w rb g) (k : Below w.heap.size w w') : RegsF S w' rb g :=
 ⟨h.free.keep k, typ_keep h.ty k, fun j hj => by obtain ⟨u, hu, hr⟩ := h.cell j hj; exact ⟨u, bkeep k hu, hr.keep k⟩⟩
theorem RegsF.told (h : RegsF S w rb g) (hr : ¬ S rb) (ho : OutT S w w') (hS : Soil S w) (hg : Grew S S' w) : RegsF S' w' rb g :=
 ⟨h.free.out ho.1 hr, typ_outK h.ty ho.1 hr, fun j hj => by obtain ⟨u, hu, hr'⟩ := h.cell j hj; exact ⟨u, okeep ho.1 hu hr, hr'.told ho hS hg⟩⟩
theorem RegsF.step {nt : Nat} {v : Value} {r : List Rat} (h : RegsF S w rb g) (hv : FRowX S w v r) (ht : nt < g.length) : RegsF S (w.setCell ⟨rb, nt, none⟩ v) rb (g.set nt r) := by
 have hk : Kp (· ≠ 38) w (w.setCell ⟨rb, nt, none⟩ v) := (Kp.refl _ w).set (fun t ht => by rw [h.ty] at ht; cases ht; exact fun k => k rfl) _
 have hp : ∀ {u : Value} {l : List Rat}, FRowX S w u l → FRowX S (w.setCell ⟨rb, nt, none⟩ v) u l := fun h => ⟨FrRow.kp frk_prog h.1 hk (by decide) (by decide), h.2⟩
 refine ⟨h.free.set _ _, by rw [typ_set]; exact h.ty, fun k hk' => ?_⟩
 rw [List.length_set] at hk'
 by_cases e : nt = k
 · subst e
   obtain ⟨u, hu, _⟩ := h.cell nt hk'
   refine ⟨v, cell_here hu _, ?_⟩
   have : (g.set nt r).getD nt [] = r := by simp [hk']
   rw [this]
   exact hp hv
 · obtain ⟨u, hu, hr⟩ := h.cell k hk'
   refine ⟨u, cell_far hu (fun e2 => e (by cases e2; rfl)) _, ?_⟩
   have : (g.set nt r).getD k [] = g.getD k [] := by simp [List.getElem?_set_ne e]
   rw [this]
   exact hp hr
end
structure ToldF (code : List Ins) (g : GridF) (m : Nat) : Prop where
 le : m ≤ code.length
 has : ∃ h, afterF code g m = some h
 stop : m < code.length → afterF code g (m + 1) = none
theorem ToldF.lt {code : List Ins} {g h : GridF} {m n : Nat} (t : ToldF code g m) (hn : n < code.length) (e : afterF code g (n + 1) = some h) (hm : n ≤ m) : n < m := by
 rcases Nat.lt_or_ge n m with h1 | h1
 · exact h1
 · obtain rfl : n = m := by omega
   rw [t.stop hn] at e; cases e
theorem ToldF.eq {code : List Ins} {g : GridF} {m n : Nat} (t : ToldF code g m) (e : afterF code g (n + 1) = none) (hm : n ≤ m) : n = m := by
 rcases Nat.lt_or_ge n m with h1 | h1
 · obtain ⟨s, hs⟩ := t.has
   rw [afterF_mono e (show n + 1 ≤ m by omega)] at hs; cases hs
 · omega
theorem toldF_ex (code : List Ins) (g : GridF) : ∃ m, ToldF code g m := by
 have key : ∀ d m, m + d = code.length → (∃ h, afterF code g m = some h) → ∃ m, ToldF code g m := by
  intro d
  induction d with
  | zero => intro m hm h; exact ⟨m, by omega, h, fun hh => by omega⟩
  | succ d ih =>
   intro m hm h
   cases e : afterF code g (m + 1) with
   | none => exact ⟨m, by omega, h, fun _ => e⟩
   | some s => exact ih (m + 1) (by omega) ⟨s, e⟩
 exact key code.length 0 (by omega) ⟨g, rfl⟩
def toldQ (code : List Ins) (g : GridF) (k : Nat) : List Rat :=
 match afterF code g k with
 | some h => rowF (code.getD k default) (h.getD (code.getD k default).a.toNat []) (h.getD (code.getD k default).b.toNat [])
 | none => []
theorem toldQ_eq {code : List Ins} {g h : GridF} {k : Nat} (e : afterF code g k = some h) : toldQ code g k = rowF (code.getD k default) (h.getD (code.getD k default).a.toNat []) (h.getD (code.getD k default).b.toNat []) := by unfold toldQ; rw [e]
theorem afterF_next {code : List Ins} {g h : GridF} {n : Nat} (e : afterF code g n = some h) : afterF code g (n + 1) = if SlimR (toldQ code g n) then some (h.set (code.getD n default).to.toNat (toldQ code g n)) else none := by
 rw [toldQ_eq e, afterF, e, Option.bind_some]
 unfold stepF
 split <;> rfl
def FnTQ (F : Nat) (caps : Array Value) (T : Nat → List Rat) (M : Nat) (J Jx : Nat → (Nat → Prop) → World → Prop) (C : World → Prop) : Prop :=
 ∀ k S W v, k < M → J k S W → C W → FRowX S W v (T k) → Calls Tryz.prog F (#[.int .i64 (k : Int), v] ++ caps) W fun e W' => (∃ b, e = .returned (.bool b) ∧ ((b = true ∧ ∃ S', Grew S S' W ∧ J (k + 1) S' W' ∧ OutT S W W') ∨ (b = false ∧ ∃ S', Jx (k + 1) S' W')))
def RunF (code : List Ins) (g : GridF) (M rb R rc : Nat) (J Jx : Nat → (Nat → Prop) → World → Prop) (e : Ending) (w' : World) : Prop :=
 (∃ h S, afterF code g code.length = some h ∧ e = .returned (.tuple #[.slice (some ⟨rb, 0, none⟩) R rc, .bool true]) ∧ J code.length S w' ∧ RegsF S w' rb h) ∨
 (e = .returned (.tuple #[.slice none 0 0, .bool false]) ∧ ((afterF code g code.length = none ∧ ∃ S, J M S w') ∨ ∃ k S, k ≤ M ∧ Jx k S w'))
theorem RunF.yes {code : List Ins} {g h : GridF} {M rb R rc : Nat} {J Jx : Nat → (Nat → Prop) → World → Prop} {S : Nat → Prop} {w : World} (e : afterF code g code.length = some h) (hj : J code.length S w) (hr : RegsF S w rb h) : RunF code g M rb R rc J Jx (.returned (.tuple #[.slice (some ⟨rb, 0, none⟩) R rc, .bool true])) w := .inl ⟨h, S, e, rfl, hj, hr⟩
theorem RunF.wide {code : List Ins} {g : GridF} {M rb R rc : Nat} {J Jx : Nat → (Nat → Prop) → World → Prop} {S : Nat → Prop} {w : World} (e : afterF code g code.length = none) (hj : J M S w) : RunF code g M rb R rc J Jx (.returned (.tuple #[.slice none 0 0, .bool false])) w := .inr ⟨rfl, .inl ⟨e, S, hj⟩⟩
theorem RunF.quit {code : List Ins} {g : GridF} {M rb R rc k : Nat} {J Jx : Nat → (Nat → Prop) → World → Prop} {S : Nat → Prop} {w : World} (hk : k ≤ M) (hj : Jx k S w) : RunF code g M rb R rc J Jx (.returned (.tuple #[.slice none 0 0, .bool false])) w := .inr ⟨rfl, .inr ⟨k, S, hk, hj⟩⟩
end
section
open Num
attribute [local go_sem ↓] Go.wp_at_zero Go.wp_at_succ
theorem far4p {w : World} {b g o i : Nat} {v : Value} (h : w.cell? ⟨b, i, none⟩ = some v) (hne : b ≠ g) (u0 u1 u2 u3 : Value) : ((((w.setCell ⟨g, o, none⟩ u0).setCell ⟨g, o + 1, none⟩ u1).setCell ⟨g, o + 2, none⟩ u2).setCell ⟨g, o + 3, none⟩ u3).cell? ⟨b, i, none⟩ = some v :=
 cell_far (cell_far (cell_far (cell_far h (addr_ne (Ne.symm hne)) _) (addr_ne (Ne.symm hne)) _) (addr_ne (Ne.symm hne)) _) (addr_ne (Ne.symm hne)) _
theorem opQ_bd {i : Ins} {x y : Rat} (h1 : 1 ≤ i.op) (h2 : i.op ≤ 8) (hc : constB i.op i.c = true) (bx : BdQ 65536 x) (by' : BdQ 65536 y) : BdQ 131080 (opQ i x y) := by
 obtain ⟨op, t, a, b, c⟩ := i
 dsimp only at h1 h2 hc
 have hop : op = 1 ∨ op = 2 ∨ op = 3 ∨ op = 4 ∨ op = 5 ∨ op = 6 ∨ op = 7 ∨ op = 8 := by omega
 rcases hop with rfl | rfl | rfl | rfl | rfl | rfl | rfl | rfl
 · rw [show opQ ⟨1, t, a, b, c⟩ x y = x by simp [opQ]]; exact bx.mono (by omega)
 · rw [show opQ ⟨2, t, a, b, c⟩ x y = -x by simp [opQ]]; exact bx.neg.mono (by omega)
 · rw [show opQ ⟨3, t, a, b, c⟩ x y = x + y by simp [opQ]]; exact (bx.add by').mono (by omega)
 · rw [show opQ ⟨4, t, a, b, c⟩ x y = x - y by simp [opQ]]; exact (bx.sub by').mono (by omega)
 · rw [show opQ ⟨5, t, a, b, c⟩ x y = x * (c : Rat) by simp [opQ]]
   simp [constB] at hc
   exact (bx.mul (whole_bd hc.2.1 hc.2.2)).mono (by omega)
 · rw [show opQ ⟨6, t, a, b, c⟩ x y = x / (c : Rat) by simp [opQ]]
   simp [constB] at hc
   exact (bx.div (whole_bd hc.2.1 hc.2.2) (whole_ne hc.1)).mono (by omega)
 · simp [constB] at hc
   rw [show opQ ⟨7, t, a, b, c⟩ x y = x * ((2 ^ c.toNat : Int) : Rat) by simp [opQ]]
   exact (bx.mul (bd_pow (show c.toNat < 65 by omega))).mono (by omega)
 · simp [constB] at hc
   rw [show opQ ⟨8, t, a, b, c⟩ x y = x / ((2 ^ c.toNat : Int) : Rat) by simp [opQ]]
   exact (bx.div (bd_pow (show c.toNat < 65 by omega)) (pow_ne _)).mono (by omega)
theorem runQ_c (n0 M : Nat) (S0 : Nat → Prop) (J Jx : Nat → (Nat → Prop) → World → Prop) (hJ : ∀ k S X Y, J k S X → Clo n0 S X Y → KeepsOthers X Y → J k S Y) (hJS : ∀ k S X, J k S X → Soil S X) (hS0 : ∀ q, S0 q → q < n0) (ins regs : Int) (ca oa : Option Addr) (cc ol oc : Nat) (code : List Ins) (g : GridF) (m rb rc F : Nat) (caps : Array Value) (w : World) (hc : InsV w ca cc code) (hcs : ∀ n, n < code.length → InsOk (code.getD n default) g.length) (hcl : code.length ≤ 16384) (hg128 : g.length ≤ 128)
 (hI : RegsF S0 w rb g) (hR : RectF m g) (hm : m ≤ 1099511627775) (hsg : SlimG g) (hM : ToldF code g M) (hft : FnTQ F caps (toldQ code g) M J Jx (Out (fun k => k = rb ∨ S0 k) w)) (eF : Enters Tryz.prog F) (hne : ∀ b off, ca = some ⟨b, off, none⟩ → 0 < code.length → b ≠ rb ∧ ¬ S0 b) (hn0 : n0 ≤ rb) (h00 : J 0 S0 w) :
 Calls Tryz.prog 95 #[.agg #[.int .i64 ins, .int .i64 regs, .slice ca code.length cc, .slice oa ol oc], .slice (some ⟨rb, 0, none⟩) g.length rc, .func (.func F) #[] caps] w (RunF code g M rb g.length rc J Jx) := by
 have HC := hZ hc
 have HCS := hZ hcs
 have HRO := hZ (fun n h (hn : n ≤ code.length) (e : afterF code g n = some h) => afterF_ok hR hsg (fun n hn => ⟨(hcs n hn).a0, (hcs n hn).a1⟩) hn e)
 have HFT := hZ hft
 have HNE := hZ hne
 have HI := hZ hI
 have HJ := hZ hJ
 have HJS := hZ hJS
 have HS0 := hZ hS0
 have HM := hZ hM
 have H00 := hZ h00
 have hmk := mkRats m (by omega)
 have zrb := hI.free.1
 clear hc hcs hft hI hR hsg hne hJ hJS hS0 hM h00
 unfold Enters at eF
 have hB := Below.refl w.heap.size w
 obtain ⟨R, hR⟩ : ∃ R, g.length = R := ⟨_, rfl⟩
 have HR := hZ hR
 rw [hR] at HCS hg128 ⊢
 clear hR
 go_enter Tryz.func95, Tryz.ntmps95
 go_wp2
 refine wp_name fun w0 hW0 => ?_
 have hB0 : Below w.heap.size w w0 := by rw [hW0]; repeat (first|exact bzR _ _|exact hB|refine bzD ?_|refine bzN ?_|refine bzS ?_|refine bzA ?_)
 have hO0 := Out.of_below (fun k => k = rb ∨ S0 k) hB0
 clear hW0 hB
 go_loopw [18] (fun x wr => ∃ n : Nat, n ≤ code.length ∧ x = .int .i64 n ∧ Out (fun k => k = rb ∨ S0 k) w0 wr ∧ n ≤ M ∧ Hid (∃ h S, afterF code g n = some h ∧ RegsF S wr rb h ∧ J n S wr ∧ (∀ q, S q → S0 q ∨ w0.heap.size ≤ q))) (fun x _ => code.length - (intOf x).toNat)
 case atStart => exact ⟨0, Nat.zero_le _, rfl, Out.refl _ _, Nat.zero_le _, hZ ⟨g, S0, rfl, HI.out.keep hB0, HJ.out 0 _ _ _ H00.out (.of_below hB0) (out_others (Out.of_below (fun _ => False) hB0) fun _ h => h.elim), fun q hq => .inl hq⟩⟩
 case round =>
  obtain ⟨n, hn, rfl, hOr, hnM, hrel⟩ := hrel
  obtain ⟨h, S, hs, hI, hjn, hSq⟩ := hrel.out
  have HS := hZ (And.intro hs hI)
  have HJN := hZ (And.intro hjn hSq)
  have HSL' := hZ (HJS.out n S wr hjn)
  have hOw : Out (fun k => k = rb ∨ S0 k) w wr := hO0.trans hOr
  have hSrb : ¬ S rb := fun h => by
   have h2 := hB0.size
   rcases hSq rb h with h | h
   · have := HS0.out rb h; omega
   · omega
  have HSRB := hZ hSrb
  have hsl := (afterF_len hs).trans HR.out
  obtain ⟨hrc, hsm⟩ := HRO.out n h hn hs
  have HRC := hZ (And.intro hrc hsm)
  have hz0 : w0.heap.size ≤ wr.heap.size := hOr.size
  have HSL := hZ hsl
  have HNX := hZ (afterF_next hs)
  have HTQ := hZ (toldQ_eq hs)
  clear hs hI hrel hsl hjn hSq hSrb hrc hsm
  by_cases hlt : n < code.length
  · have hltI : (n : Int) < (code.length : Int) := by omega
    rcases HC.out with h0 | ⟨cb, co, rfl, hcap, hcell⟩
    · rw [h0] at hlt; simp at hlt
    have hcb : ¬ (cb = rb ∨ S0 cb) := fun h => by rcases h with h | h; exact (HNE.out cb co rfl (by omega)).1 h; exact (HNE.out cb co rfl (by omega)).2 h
    obtain ⟨q0, q1, q2, q3, q4⟩ := hcell n hlt
    replace q0 := okeep hOw q0 hcb
    replace q1 := okeep hOw q1 hcb
    replace q2 := okeep hOw q2 hcb
    replace q3 := okeep hOw q3 hcb
    replace q4 := okeep hOw q4 hcb
    have zq := cell_lt q0
    have hio := HCS.out n hlt
    have HIO := hZ hio
    obtain ⟨ua, hua, hxa⟩ := HS.out.2.cell (code.getD n default).a.toNat (by have := hio.a0; have := hio.a1; rw [HSL.out]; omega)
    obtain ⟨ub, hub, hxb⟩ := HS.out.2.cell (code.getD n default).b.toNat (by have := hio.b0; have := hio.b1; rw [HSL.out]; omega)
    have hla := HRC.out.1 (code.getD n default).a.toNat (by have := hio.a0; have := hio.a1; rw [HSL.out]; omega)
    have hlb := HRC.out.1 (code.getD n default).b.toNat (by have := hio.b0; have := hio.b1; rw [HSL.out]; omega)
    have hba := HRC.out.2 (code.getD n default).a.toNat (by have := hio.a0; have := hio.a1; rw [HSL.out]; omega)
    have hbb := HRC.out.2 (code.getD n default).b.toNat (by have := hio.b0; have := hio.b1; rw [HSL.out]; omega)
    have OC := hZ (fun V => dnOp_c (code.getD n default) V hio.o1 hio.o2 hio.c)
    obtain ⟨A, hA⟩ : ∃ A, h.getD (code.getD n default).a.toNat [] = A := ⟨_, rfl⟩
    obtain ⟨B, hBB⟩ : ∃ B, h.getD (code.getD n default).b.toNat [] = B := ⟨_, rfl⟩
    rw [hA] at hxa hla hba HTQ
    rw [hBB] at hxb hlb hbb HTQ
    have HAB := hZ (And.intro hla (And.intro hlb (And.intro hba hbb)))
    obtain ⟨aa, ca1, rfl⟩ := FrRow.ex hxa.1
    obtain ⟨ba, cb1, rfl⟩ := FrRow.ex hxb.1
    have HXA := hZ hxa.1
    have HXB := hZ hxb.1
    rw [hla] at hua HXA
    rw [hlb] at hub HXB
    have t0 := hio.t0
    have t1 := hio.t1
    have a0 := hio.a0
    have a1 := hio.a1
    have b0 := hio.b0
    have b1 := hio.b1
    clear hA hBB hxa hxb hla hlb hba hbb hcell
    obtain ⟨i, hi⟩ : ∃ i, code.getD n default = i := ⟨_, rfl⟩
    rw [hi] at q0 q1 q2 q3 q4 OC t0 t1 a0 a1 b0 b1 hua hub HTQ HNX HIO
    have HIN := hZ hi
    clear hi hio
    obtain ⟨op, it, ia, ib, ic⟩ := i
    dsimp only at q0 q1 q2 q3 q4 t0 t1 a0 a1 b0 b1 hua hub HNX
    obtain ⟨nt, rfl⟩ : ∃ x : Nat, it = x := ⟨it.toNat, by omega⟩
    obtain ⟨na, rfl⟩ : ∃ x : Nat, ia = x := ⟨ia.toNat, by omega⟩
    obtain ⟨nb, rfl⟩ : ∃ x : Nat, ib = x := ⟨ib.toNat, by omega⟩
    have t1' : nt < R := by omega
    have a1' : na < R := by omega
    have b1' : nb < R := by omega
    rw [Int.toNat_natCast] at hua hub HNX
    unfold Ins.v OpPost at OC
    dsimp only at OC
    have hBw := Below.refl wr.heap.size wr
    have zua := cell_lt hua
    go_wp2_with fail
    (with_reducible refine (OC.out _).mono ?_)
    rintro e w5 ⟨F5, caps5, rfl, eF5', hF5, hb5⟩
    have hB5 : Below wr.heap.size wr w5 := bthen bZ hb5
    have i1 : w5.cell? ⟨wr.heap.size, 1, none⟩ = some (.int .i64 nt) := bkeep hb5 (by first | exact cell_new rfl rfl | exact cell_drew (cell_new rfl rfl))
    have i2 : w5.cell? ⟨wr.heap.size, 2, none⟩ = some (.int .i64 na) := bkeep hb5 (by first | exact cell_new rfl rfl | exact cell_drew (cell_new rfl rfl))
    have i3 : w5.cell? ⟨wr.heap.size, 3, none⟩ = some (.int .i64 nb) := bkeep hb5 (by first | exact cell_new rfl rfl | exact cell_drew (cell_new rfl rfl))
    replace hua := bkeep hB5 hua
    replace hub := bkeep hB5 hub
    have HF5 := hZ hF5
    have HXA5 := hZ (FRow.keep HXA.out hB5)
    have HXB5 := hZ (FRow.keep HXB.out hB5)
    have zi := cell_lt i1
    have zu5 := cell_lt hua
    have HB5 := hZ hB5
    clear OC hb5 q0 q1 q2 q3 q4 zq zua hBw hF5
    have hBw5 := Below.refl w5.heap.size w5
    go_upto_region 5 with (fail)
    go_quiet (fail)
    go_upto_region 7 with (fail)
    refine wp_name fun w6 hW6 => ?_
    have hb56 : Below w5.heap.size w5 w6 := by rw [hW6]; repeat (first|exact bzR _ _|exact hBw5|refine bzD ?_|refine bzN ?_|refine bzS ?_|refine bzA ?_)
    have HZ6 := hZ (show FrBlk IsQP 79 w6 w5.heap.size m (fun _ => 0) from by rw [hW6]; exact zcelQ_blk _ m (by simp))
    have hB6 : Below wr.heap.size wr w6 := bthen HB5.out hb56
    have hwbr : wr.heap.size ≤ w5.heap.size := HB5.out.size
    have i1' := i1
    replace i1 := bkeep hb56 i1
    have HBF := hZ (And.intro hb56 hB6)
    have hwlt : wr.heap.size < w5.heap.size := cell_lt i1'
    obtain ⟨wb, hwb⟩ : ∃ b, w5.heap.size = b := ⟨_, rfl⟩
    rw [hwb] at hwlt
    have hwne : ¬ wr.heap.size = wb := by omega
    have HWB := hZ hwb
    rw [hwb] at HZ6 hwbr ⊢
    obtain ⟨Zf, hZf⟩ : ∃ Z : Nat → Rat, (fun j => opQ ⟨op, (nt : Int), (na : Int), (nb : Int), ic⟩ (A.getD j 0) (B.getD j 0)) = Z := ⟨_, rfl⟩
    have HZF := hZ (show ∀ j, Zf j = opQ ⟨op, (nt : Int), (na : Int), (nb : Int), ic⟩ (A.getD j 0) (B.getD j 0) from fun j => by rw [← hZf])
    clear hW6 hb56 hB6 hwb i1' hZf i2 i3 hua hub zu5 zi HXA5 HXB5 hBw5
    have eF5 := eF5'
    unfold Enters at eF5
    go_wp2
    go_loopw [40] (fun x wq => ∃ c : Nat, c ≤ m ∧ x = .int .i64 c ∧ Out (fun q => q = wb) w6 wq ∧ Hid (FrBlk IsQP 79 wq wb m (fun j => if j < c then Zf j else 0))) (fun x _ => m - (intOf x).toNat)
    case atStart => exact ⟨0, Nat.zero_le _, rfl, Out.refl _ _, hZ (HZ6.out.congr fun j _ => by rw [if_neg (by omega)])⟩
    case round =>
     rename World => wq
     obtain ⟨c, hcm, rfl, hOq, hZq⟩ := hrel
     have hBq : Below wr.heap.size wr wq := HBF.out.2.trans (hOq.to_below (fun q hq _ e => by omega) HBF.out.2.size)
     have hB5q : Below w5.heap.size w5 wq := HBF.out.1.trans (hOq.to_below (fun q hq _ e => by have := HWB.out; omega) HBF.out.1.size)
     by_cases hc2 : c < m
     · have hcI : (c : Int) < (m : Int) := by omega
       obtain ⟨b1, o1, rfl, -, f1, z1, u1, y1, f2, z2, u2, y2, p0, p1, p2, p3, pI⟩ := (FRow.keep HXA.out hBq).at hc2
       obtain ⟨b2, o2, rfl, -, f3, z3, u3, y3, f4, z4, u4, y4, r0, r1, r2, r3, rI⟩ := (FRow.keep HXB.out hBq).at hc2
       have hfr := hZq.out.fr.2
       obtain ⟨f5, z5, u5, y5, f6, z6, u6, y6, e0, e1, e2, e3, -⟩ := hZq.out.at_ c hc2
       have HPI := hZ pI
       have HRI := hZ rI
       have zp := cell_lt p0
       have zr := cell_lt r0
       have ze := cell_lt e0
       have hb1 : b1 ≠ wb := by obtain ⟨b', o', e', ht', _⟩ := FrRow.at HXA.out hc2; cases e'; have := typ_lt ht'; omega
       have hb2 : b2 ≠ wb := by obtain ⟨b', o', e', ht', _⟩ := FrRow.at HXB.out hc2; cases e'; have := typ_lt ht'; omega
       have FQ := hZ (fun V (q : Below wq.heap.size wq V) => HF5.out V _ _ _ _ (bthen hB5q q) (HPI.out.keep q) (HRI.out.keep q) (HAB.out.2.2.1 c (by rw [HAB.out.1]; exact hc2)) (HAB.out.2.2.2 c (by rw [HAB.out.2.1]; exact hc2)))
       unfold AnsF at FQ
       rw [← HZF.out c] at FQ
       have HS := hZ (show ∀ V, Below wq.heap.size wq V → V.cell? ⟨b1, o1 + c * 4, none⟩ = some (.bool f1) ∧ V.cell? ⟨b1, o1 + c * 4 + 1, none⟩ = some (.slice z1 u1 y1) ∧ V.cell? ⟨b1, o1 + c * 4 + 2, none⟩ = some (.bool f2) ∧ V.cell? ⟨b1, o1 + c * 4 + 3, none⟩ = some (.slice z2 u2 y2) ∧ V.cell? ⟨b2, o2 + c * 4, none⟩ = some (.bool f3) ∧ V.cell? ⟨b2, o2 + c * 4 + 1, none⟩ = some (.slice z3 u3 y3) ∧ V.cell? ⟨b2, o2 + c * 4 + 2, none⟩ = some (.bool f4) ∧ V.cell? ⟨b2, o2 + c * 4 + 3, none⟩ = some (.slice z4 u4 y4) from fun V q => ⟨bkeep q p0, bkeep q p1, bkeep q p2, bkeep q p3, bkeep q r0, bkeep q r1, bkeep q r2, bkeep q r3⟩)
       have HSF := hZ (show ∀ V, Below wq.heap.size wq V → ∀ v0 v1 v2 v3, ((((V.setCell ⟨wb, c * 4, none⟩ v0).setCell ⟨wb, c * 4 + 1, none⟩ v1).setCell ⟨wb, c * 4 + 2, none⟩ v2).setCell ⟨wb, c * 4 + 3, none⟩ v3).cell? ⟨b1, o1 + c * 4, none⟩ = some (.bool f1) ∧ ((((V.setCell ⟨wb, c * 4, none⟩ v0).setCell ⟨wb, c * 4 + 1, none⟩ v1).setCell ⟨wb, c * 4 + 2, none⟩ v2).setCell ⟨wb, c * 4 + 3, none⟩ v3).cell? ⟨b1, o1 + c * 4 + 1, none⟩ = some (.slice z1 u1 y1) ∧ ((((V.setCell ⟨wb, c * 4, none⟩ v0).setCell ⟨wb, c * 4 + 1, none⟩ v1).setCell ⟨wb, c * 4 + 2, none⟩ v2).setCell ⟨wb, c * 4 + 3, none⟩ v3).cell? ⟨b1, o1 + c * 4 + 2, none⟩ = some (.bool f2) ∧ ((((V.setCell ⟨wb, c * 4, none⟩ v0).setCell ⟨wb, c * 4 + 1, none⟩ v1).setCell ⟨wb, c * 4 + 2, none⟩ v2).setCell ⟨wb, c * 4 + 3, none⟩ v3).cell? ⟨b1, o1 + c * 4 + 3, none⟩ = some (.slice z2 u2 y2) ∧ ((((V.setCell ⟨wb, c * 4, none⟩ v0).setCell ⟨wb, c * 4 + 1, none⟩ v1).setCell ⟨wb, c * 4 + 2, none⟩ v2).setCell ⟨wb, c * 4 + 3, none⟩ v3).cell? ⟨b2, o2 + c * 4, none⟩ = some (.bool f3) ∧ ((((V.setCell ⟨wb, c * 4, none⟩ v0).setCell ⟨wb, c * 4 + 1, none⟩ v1).setCell ⟨wb, c * 4 + 2, none⟩ v2).setCell ⟨wb, c * 4 + 3, none⟩ v3).cell? ⟨b2, o2 + c * 4 + 1, none⟩ = some (.slice z3 u3 y3) ∧ ((((V.setCell ⟨wb, c * 4, none⟩ v0).setCell ⟨wb, c * 4 + 1, none⟩ v1).setCell ⟨wb, c * 4 + 2, none⟩ v2).setCell ⟨wb, c * 4 + 3, none⟩ v3).cell? ⟨b2, o2 + c * 4 + 2, none⟩ = some (.bool f4) ∧ ((((V.setCell ⟨wb, c * 4, none⟩ v0).setCell ⟨wb, c * 4 + 1, none⟩ v1).setCell ⟨wb, c * 4 + 2, none⟩ v2).setCell ⟨wb, c * 4 + 3, none⟩ v3).cell? ⟨b2, o2 + c * 4 + 3, none⟩ = some (.slice z4 u4 y4) from fun V q v0 v1 v2 v3 => by
        obtain ⟨k0, k1, k2, k3, k4, k5, k6, k7⟩ := HS.out V q
        exact ⟨far4p k0 hb1 _ _ _ _, far4p k1 hb1 _ _ _ _, far4p k2 hb1 _ _ _ _, far4p k3 hb1 _ _ _ _, far4p k4 hb2 _ _ _ _, far4p k5 hb2 _ _ _ _, far4p k6 hb2 _ _ _ _, far4p k7 hb2 _ _ _ _⟩)
       have hBw := Below.refl wq.heap.size wq
       clear pI rI
       go_upto_region 10 with (fail)
       go_region_held3 (fun V => V.cell? ⟨b1, o1 + c * 4, none⟩ = some (.bool f1) ∧ V.cell? ⟨b1, o1 + c * 4 + 1, none⟩ = some (.slice z1 u1 y1) ∧ V.cell? ⟨b1, o1 + c * 4 + 2, none⟩ = some (.bool f2) ∧ V.cell? ⟨b1, o1 + c * 4 + 3, none⟩ = some (.slice z2 u2 y2) ∧ V.cell? ⟨b2, o2 + c * 4, none⟩ = some (.bool f3) ∧ V.cell? ⟨b2, o2 + c * 4 + 1, none⟩ = some (.slice z3 u3 y3) ∧ V.cell? ⟨b2, o2 + c * 4 + 2, none⟩ = some (.bool f4) ∧ V.cell? ⟨b2, o2 + c * 4 + 3, none⟩ = some (.slice z4 u4 y4))
        (first | (with_reducible refine HSF.out _ ?_ _ _ _ _; (repeat (first|exact bzR _ _|exact hBw|refine bzD ?_|refine bzN ?_|refine bzS ?_|refine bzA ?_)); done) | (refine HS.out _ ?_; (repeat (first|exact bzR _ _|exact hBw|refine bzD ?_|refine bzN ?_|refine bzS ?_|refine bzA ?_)); done) | fail)
        (first
         | (go_at_fn F5; refine (FQ.out _ ?_).mono ?_; (repeat (first|exact bzR _ _|exact hBw|refine bzD ?_|refine bzN ?_|refine bzS ?_|refine bzA ?_)); rintro e w7 ⟨⟨u7, rfl, hu7⟩, hb7⟩; (replace hBw : Below wq.heap.size wq w7 := bthen bZ hb7); have HU7 := hZ hu7; have e0f := bkeepf hBw e0 (hfr _); have e1f := bkeepf hBw e1 (hfr _); have e2f := bkeepf hBw e2 (hfr _); have e3f := bkeepf hBw e3 (hfr _); have e0 := bkeep hBw e0; have e1 := bkeep hBw e1; have e2 := bkeep hBw e2; have e3 := bkeep hBw e3; have ze7 := cell_lt e0; obtain ⟨m1, x1, k1, d1, m2, x2, k2, d2, rfl, -, -⟩ := hu7)
         | fail)
       all_goals
        have HZn := hZ (((hZq.out.keep frk_prog hBw).put frk_prog hc2 HU7.out).congr (G := fun j => if j < c + 1 then Zf j else 0) fun j hj => by
         by_cases e : j = c
         · subst e; rw [if_pos rfl, if_pos (by omega)]
         · rw [if_neg e]
           by_cases e2 : j < c
           · rw [if_pos e2, if_pos (by omega)]
           · rw [if_neg e2, if_neg (by omega)])
        have HOn := hZ (((((hOq.below hBw).set (p := ⟨wb, c * 4, none⟩) (fun _ => rfl) (.bool m1)).set (p := ⟨wb, c * 4 + 1, none⟩) (fun _ => rfl) (.slice x1 k1 d1)).set (p := ⟨wb, c * 4 + 2, none⟩) (fun _ => rfl) (.bool m2)).set (p := ⟨wb, c * 4 + 3, none⟩) (fun _ => rfl) (.slice x2 k2 d2))
        clear FQ HS HSF HU7
        go_wp2
        exact ⟨⟨c + 1, hc2, by go_num, HOn.out, HZn⟩, meas hc2 (by go_num) rfl⟩
     · obtain rfl : c = m := by omega
       have hcI : ¬ (c : Int) < (c : Int) := by omega
       have HT0 := hZ (show toldQ code g n = rowF ⟨op, (nt : Int), (na : Int), (nb : Int), ic⟩ A B from HTQ.out)
       have hTl : (toldQ code g n).length = c := by rw [HT0.out, rowF_len]; exact HAB.out.1
       have HTZ := hZ (show ∀ j, j < c → Zf j = (toldQ code g n).getD j 0 from fun j hj => by rw [HT0.out, rowF_get _ _ _ (by rw [HAB.out.1]; exact hj)]; exact HZF.out j)
       have HTB := hZ (show ∀ j, j < (toldQ code g n).length → BdQ 131080 ((toldQ code g n).getD j 0) from fun j hj => by
        rw [hTl] at hj
        rw [← HTZ.out j hj, HZF.out j]
        exact opQ_bd HIO.out.o1 HIO.out.o2 HIO.out.c (HAB.out.2.2.1 j (by rw [HAB.out.1]; exact hj)) (HAB.out.2.2.2 j (by rw [HAB.out.2.1]; exact hj)))
       have HRW := hZ (show FrRow IsQP 79 0 wq (.slice (some ⟨wb, 0, none⟩) c c) (toldQ code g n) from hZq.out.row (m := c) hTl (Nat.le_refl _) fun k hk => by rw [if_pos hk]; exact HTZ.out k hk)
       have HRX := hZ (show FRowX S wq (.slice (some ⟨wb, 0, none⟩) c c) (toldQ code g n) from ⟨HRW.out, .inr fun b hb hs => by
        simp [rowBlk] at hb
        subst hb
        have := HSL'.out.lt hs
        omega⟩)
       have hTl2 : (toldQ code g n).length ≤ 1099511627776 := by rw [hTl]; omega
       have CW := hZ (fun V (q : Below wq.heap.size wq V) => cntWide_c (.slice (some ⟨wb, 0, none⟩) c c) (toldQ code g n) 131080 V (FRow.keep HRW.out q) HTB.out (by omega) hTl2)
       have HJq := hZ (HJ.out n S wr wq HJN.out.1 (.of_below hBq) (out_others (Out.of_below (fun _ => False) hBq) fun _ h => h.elim))
       have HRq := hZ (HS.out.2.keep hBq)
       have hOq0 := hOr.below hBq
       have i1q : wq.cell? ⟨wr.heap.size, 1, none⟩ = some (.int .i64 nt) := okeep hOq i1 hwne
       obtain ⟨T, hT⟩ : ∃ T, toldQ code g n = T := ⟨_, rfl⟩
       have HT := hZ hT
       have hBw := Below.refl wq.heap.size wq
       rw [hT] at CW HRX hTl HNX
       clear hTl2
       clear hZq hOq HRW HTB HTZ HT0 HZ6 i1 hT hBq hB5q
       go_wp2_with fail
       (with_reducible refine (CW.out _ ?_).mono ?_); (repeat (first|exact bzR _ _|exact hBw|refine bzD ?_|refine bzN ?_|refine bzS ?_|refine bzA ?_))
       rintro e w7 ⟨rfl, hb7⟩
       have hb7q : Below wq.heap.size wq w7 := bthen bZ hb7
       have HJ7 := hZ (HJ.out n S wq w7 HJq.out (.of_below hb7q) (out_others (Out.of_below (fun _ => False) hb7q) fun _ h => h.elim))
       have HR7 := hZ (HRq.out.keep hb7q)
       have HX7 := hZ (HRX.out.keep hb7q)
       have hO7 := hOq0.below hb7q
       have i17 := bkeep hb7q i1q
       clear CW hb7 hBw HJq HRq HRX hOq0 i1q
       by_cases hsl : SlimR T
       · have hst : afterF code g (n + 1) = some (h.set nt T) := by rw [HNX.out, if_pos hsl]
         have hlM : n < M := HM.out.lt hlt hst hnM
         have HST := hZ hst
         have hdW : decide (¬ SlimR T) = false := decide_eq_false (fun h => h hsl)
         rw [hdW]
         have HOW := hZ (hO0.trans hO7)
         have HRT := hZ (show FRowX S w7 (.slice (some ⟨wb, 0, none⟩) c c) (toldQ code g n) by rw [HT.out]; exact HX7.out)
         have HSO := hZ (HJS.out n S w7 HJ7.out)
         have hB7 := Below.refl w7.heap.size w7
         clear hst hdW hsl HNX
         go_wp2_with fail
         go_at_fn F
         refine (HFT.out n S _ _ hlM ?_ ?_ ?_).mono ?_
         · exact HJ.out n S _ _ HJ7.out (.of_below bZ) (out_others (Out.of_below (fun _ => False) bZ) fun _ h => h.elim)
         · refine HOW.out.below ?_
           repeat exact bZ
         · refine HRT.out.keep ?_
           repeat exact bZ
         rintro e w8 ⟨bb, rfl, hres⟩
         rcases hres with ⟨rfl, S', hg', hj', ho'⟩ | ⟨rfl, S', hx⟩
         · have hS'rb : ¬ S' rb := fun h => by
            rcases hg' rb h with h | h
            · exact HSRB.out h
            · have h2 := hO7.size; have h3 := hB0.size; omega
           have hR8 := HR7.out.told HSRB.out ho' HSO.out hg'
           have hX8 := HX7.out.told ho' HSO.out hg'
           have hnt : nt < h.length := by rw [HSL.out]; exact t1'
           have i18 := okeep ho'.1 i17 (fun hs => by have := HSL'.out.lt hs; omega)
           obtain ⟨u0, o0, -⟩ := hR8.cell nt hnt
           have of0 := hR8.free.2 nt
           have zo := cell_lt o0
           have zi := cell_lt i18
           have HN9 := hZ (hR8.step hX8 hnt)
           have hset : Out (fun q => q = rb) w8 (w8.setCell ⟨rb, nt, none⟩ (.slice (some ⟨wb, 0, none⟩) c c)) := (Out.refl (fun q => q = rb) w8).set (p := ⟨rb, nt, none⟩) (fun _ => rfl) _
           have HJ9 := hZ (HJ.out (n + 1) S' w8 _ hj' (Clo.of_out hset fun q hq _ => by subst hq; exact ⟨hn0, hS'rb, by rw [hR8.ty]; decide⟩) (out_others hset fun q hq _ => by subst hq; exact typ_cells hR8.ty))
           have HO9 := hZ ((hO7.then ho'.1 fun i hi hs => by
            rcases HJN.out.2 i hs with h | h
            · exact .inr h
            · omega).set (p := ⟨rb, nt, none⟩) (fun _ => .inl rfl) (.slice (some ⟨wb, 0, none⟩) c c))
           have HSq9 := hZ (show ∀ q, S' q → S0 q ∨ w0.heap.size ≤ q from fun q hq => by
            rcases hg' q hq with h | h
            · exact HJN.out.2 q h
            · exact .inr (Nat.le_trans hO7.size h))
           clear hg' hj' ho' hR8 hX8 hset HJ7 HR7 HX7 HOW HRT HSO i17 hB7
           go_wp2
           exact ⟨⟨n + 1, hlt, by go_num, HO9.out, hlM, hZ ⟨_, S', HST.out, HN9.out, HJ9.out, HSq9.out⟩⟩, meas hlt (by go_num) rfl⟩
         · have HX8 := hZ hx
           clear hx HJ7 HR7 HX7 HOW HRT HSO i17 hB7
           go_wp2
           refine bodyPost_ret (v := .tuple #[.slice none 0 0, .bool false]) (by simp [results, Tryz.results95, go_sem]) rfl (RunF.quit (by omega) HX8.out)
       · have hfa : afterF code g (n + 1) = none := by rw [HNX.out, if_neg hsl]
         obtain rfl : n = M := HM.out.eq hfa hnM
         have HAL := hZ (show afterF code g code.length = none from afterF_mono hfa hlt)
         rw [decide_eq_true hsl]
         clear hfa hsl HNX
         go_wp2
         refine bodyPost_ret (v := .tuple #[.slice none 0 0, .bool false]) (by simp [results, Tryz.results95, go_sem]) rfl (RunF.wide HAL.out HJ7.out)
  · obtain rfl : n = code.length := by omega
    have hltI : ¬ (code.length : Int) < (code.length : Int) := by omega
    go_wp2
    refine bodyPost_ret (v := .tuple #[.slice (some ⟨rb, 0, none⟩) R rc, .bool true]) (by simp [results, Tryz.results95, go_sem]) rfl (RunF.yes HS.out.1 HJN.out.1 HS.out.2)
end
section
open Num
attribute [local go_sem ↓] Go.wp_at_zero Go.wp_at_succ
theorem frc_cells {w : World} {b off n : Nat} {f : Nat → Rat} (h : ∀ k, k < n → FrC IsQP w b (off + k * 4) (f k)) : ∀ j, j < n * 4 → ∃ v, w.cell? ⟨b, off + j, none⟩ = some v ∧ v.oneCell' = true := by
 intro j hj
 obtain ⟨n1, a1, l1, c1, n2, a2, l2, c2, h0, h1, h2, h3, _⟩ := h (j / 4) (by omega)
 have e : j % 4 = 0 ∨ j % 4 = 1 ∨ j % 4 = 2 ∨ j % 4 = 3 := by omega
 rcases e with e | e | e | e
 · exact ⟨_, by rw [show off + j = off + j / 4 * 4 by omega]; exact h0, rfl⟩
 · exact ⟨_, by rw [show off + j = off + j / 4 * 4 + 1 by omega]; exact h1, rfl⟩
 · exact ⟨_, by rw [show off + j = off + j / 4 * 4 + 2 by omega]; exact h2, rfl⟩
 · exact ⟨_, by rw [show off + j = off + j / 4 * 4 + 3 by omega]; exact h3, rfl⟩
theorem frOwn_cells {w w' : World} {b off : Nat} {L : List Rat} {v' : Value} (h : ∀ k, k < L.length → FrC IsQP w b (off + k * 4) (L.getD k 0)) (hb : Below w.heap.size w w') (hO : w'.ownsRow w.heap.size 79 4 v' L.length (cellsAt w b off (L.length * 4))) : FrOwn IsQP 79 w w' v' L := by
 refine ⟨_, ⟨hO, hb⟩, fun k hk => ?_⟩
 obtain ⟨n1, a1, l1, c1, n2, a2, l2, c2, h0, h1, h2, h3, h4⟩ := h k hk
 exact ⟨n1, a1, l1, c1, n2, a2, l2, c2, cellsAt_get (by omega) h0, cellsAt_get (by omega) h1, cellsAt_get (by omega) h2, cellsAt_get (by omega) h3, h4.keep hb⟩
theorem cloneQ_c (v : Value) (L : List Rat) (w : World) (hv : FRow 0 w v L) (h1 : L.length ≤ 1099511627776) :
 Calls Tryz.prog 105 #[v] w fun e w' => (∃ v', e = .returned v' ∧ FrOwn IsQP 79 w w' v' L) ∧ Below w.heap.size w w' := by
 obtain ⟨a, ca, rfl, hlc, hl⟩ := hv
 have hB0 := Below.refl w.heap.size w
 have hq := fun w => Lib.run_eql_slice_nil w 38 79 a L.length ca 0 0 Tryz.underlying38
 cases a with
 | none =>
  obtain rfl : L = [] := by rcases hl with h | ⟨b, off, h, _⟩
                            · exact h
                            · cases h
  have hq2 : ∀ w, (binOp .eql 38 (.slice none 0 ca) (.slice none 0 0)).run Tryz.prog w = .ok (.bool true) w := hq
  clear hq hl
  go_enter Tryz.func105, Tryz.ntmps105
  go_wp2
  go_ret
  exact ⟨⟨_, rfl, FrOwn.nil _ _ hB0⟩, Below.refl _ _⟩
 | some ad =>
  obtain ⟨i0, z0, hi, hz0, hz1, hz2, hz3⟩ := elRat.info
  obtain ⟨xs, hx1, hx2, hx3, HX⟩ : ∃ xs : List Value, xs.length = L.length * 4 ∧ (∀ (W : World), Below w.heap.size w W → ∀ j u, xs[j]? = some u → W.cell? (ad.add j) = some u) ∧ (∀ u ∈ xs, u.oneCell' = true) ∧
   Hid (∀ v' w', Below w.heap.size w w' → w'.ownsRow w.heap.size 79 4 v' L.length xs → FrOwn IsQP 79 w w' v' L) := by
   rcases hl with rfl | ⟨b, off, h, hb, ht, hi'⟩
   · refine ⟨[], by simp, fun W hW j u hj => by simp at hj, fun u hu => by simp at hu, hZ fun v' w' hb' hO => ?_⟩
     exact ⟨[], ⟨hO, hb'⟩, fun k hk => absurd hk (by simp)⟩
   · cases h
     refine ⟨cellsAt w b off (L.length * 4), cellsAt_len _ _ _ _, fun W hW => cellsAt_at hW fun j hj => ?_, cellsAt_all (frc_cells hi'), hZ fun v' w' hb' hO => ?_⟩
     · obtain ⟨v, hv, _⟩ := frc_cells hi' j hj; exact ⟨v, hv⟩
     · exact frOwn_cells hi' hb' hO
  clear hl
  have ho : (w.alloc (.cells #[] 79)).ownsRow w.heap.size 79 4 (.slice (some ⟨w.heap.size, 0, none⟩) 0 0) 0 [] := ⟨rfl, .inr ⟨w.heap.size, 0, #[], rfl, Nat.le_refl _, (MapKept.heap_alloc w _).1, Nat.le_refl _, by unfold maxLen; omega, rfl, rfl⟩⟩
  go_enter Tryz.func105, Tryz.ntmps105
  go_wp2_with (at_builtin; refine wpList_append_own _ rfl _ _ 38 rfl w.heap.size 79 i0 z0 4 64 Tryz.underlying38 hi hz0 hz1 hz2 hz3 (by decide) _ 0 [] rfl ho ad L.length ca xs rfl hx1 (hx2 _ (bal hB0 _)) hx3 (by unfold maxLen; omega) (by omega) (by simp) ?_)
  intro v' w1 hown hgrow _
  have hbel := below_append (wr := w) (bal hB0 _) ho hgrow
  try simp only [Nat.zero_add, List.nil_append] at hown
  have hr := HX.out v' w1 hbel hown
  have HU := hZ hr
  obtain ⟨a', c', rfl⟩ := hr.ex
  clear hr
  clear hown hx1 hx2 hx3 hq hgrow ho
  go_wp2
  go_ret
  exact ⟨⟨_, rfl, HU.out⟩, hbel⟩
theorem infoRats : (Tryz.prog.info? 38).map (fun i => (i.zero, i.size, i.bytes)) = some (some (.slice none 0 0), 1, 24) := by kernel_rfl
theorem elRats : Elt Tryz.prog 29 38 1 24 := Elt.mk' Tryz.underlying29 infoRats rfl (by decide) (by decide)
theorem prs_frow (base : Nat) : Prs (fun t => t = 177 ∨ t = 79) (FRow base) :=
 ⟨fun h => by obtain ⟨a, c, rfl, _⟩ := h; rfl, fun h k => FrRow.kp frk_prog h k (.inl rfl) (.inr rfl)⟩
def PRp (base : Nat) (w : World) (u : Value) (x : Nat × List Rat) : Prop :=
 ∃ c, u = .slice (some ⟨x.1, 0, none⟩) x.2.length c ∧ x.2.length ≤ c ∧ base ≤ x.1 ∧ FrBlk IsQP 79 w x.1 x.2.length (fun k => x.2.getD k 0)
theorem prs_prp (base : Nat) : Prs (fun t => t = 177 ∨ t = 79) (PRp base) where
 one := fun ⟨c, e, _⟩ => by rw [e]; rfl
 kp := fun ⟨c, e, hc, hb, h⟩ k => ⟨c, e, hc, hb, h.kp frk_prog k (.inl rfl) (.inr rfl)⟩
theorem FrOwn.prp {w0 w : World} {v : Value} {l : List Rat} (h : FrOwn IsQP 79 w0 w v l) (hl : 0 < l.length) : ∃ b, PRp w0.heap.size w v (b, l) := by
 obtain ⟨a, c, e, hc, h2⟩ := h.view
 rcases h2 with h2 | ⟨g, rfl, hg, hf, ht, h3⟩
 · omega
 · exact ⟨g, c, e, hc, hg, ht, hf, h3⟩
theorem PRp.rebase {base base' : Nat} {w : World} {u : Value} {x : Nat × List Rat} (h : PRp base w u x) (hb : base' ≤ base) : PRp base' w u x := by
 obtain ⟨c, e, hc, h1, h2⟩ := h; exact ⟨c, e, hc, by omega, h2⟩
theorem PRp.frow {base : Nat} {w : World} {u : Value} {x : Nat × List Rat} (h : PRp base w u x) : FRow base w u x.2 := by
 obtain ⟨c, e, hc, h1, h2⟩ := h
 exact ⟨_, c, e, hc, .inr ⟨x.1, 0, rfl, h1, h2.ty, fun k hk => by rw [Nat.zero_add]; exact h2.at_ k hk⟩⟩
theorem unitsF_len (n R : Nat) : (unitsF n R).length = R := by simp [unitsF]
theorem unitsF_get {n R k : Nat} (h : k < R) : (unitsF n R).getD k [] = (List.range n).map fun j => if j = k then (1 : Rat) else 0 := by simp [unitsF, h]
theorem unitsF_at {n R k j : Nat} (h : k < R) (hj : j < n) : ((unitsF n R).getD k []).getD j 0 = if j = k then (1 : Rat) else 0 := by rw [unitsF_get h]; simp [hj]
theorem unitsF_rect (n R : Nat) : RectF n (unitsF n R) := fun i hi => by rw [unitsF_len] at hi; rw [unitsF_get hi]; simp
theorem bdq_01 (k : Nat) (hk : 1 ≤ k) (b : Prop) [Decidable b] : BdQ k (if b then (1 : Rat) else 0) := by
 have h1 : (1 : Nat) < 2 ^ k := Nat.one_lt_two_pow (by omega)
 unfold BdQ Bd
 split
 · exact ⟨h1, h1⟩
 · exact ⟨by show (0 : Nat) < _; omega, h1⟩
theorem slim_01 (b : Prop) [Decidable b] : Slim (if b then (1 : Rat) else 0) := bdq_01 65536 (by omega) b
theorem unitsF_slim (n R : Nat) : SlimG (unitsF n R) := fun i hi j hj => by
 rw [unitsF_len] at hi
 rw [unitsF_get hi, List.length_map, List.length_range] at hj
 rw [unitsF_at hi hj]
 exact slim_01 _
theorem take_getDF {g : GridF} {k : Nat} (h : k < g.length) : g.take (k + 1) = g.take k ++ [g.getD k []] := by
 rw [List.take_add_one, List.getElem?_eq_getElem h]; simp [h]
theorem units_c (n R : Nat) (ca oa : Option Addr) (cl cc ol oc : Nat) (w : World) (hn : n ≤ R) (h1 : 1 ≤ n) (hR : R ≤ 128) :
 Calls Tryz.prog 96 #[.agg #[.int .i64 (n : Int), .int .i64 (R : Int), .slice ca cl cc, .slice oa ol oc]] w fun e w' => (∃ v, e = .returned v ∧ OwnL 38 (FRow w.heap.size) w w' v (unitsF n R)) ∧ Below w.heap.size w w' := by
 have hB := Below.refl w.heap.size w
 have hmk := mkRats n (by omega)
 have OC := hZ (fun V => of_c 1 V (by omega) (by omega))
 have HU := hZ (And.intro (unitsF_len n R) (fun k (hk : k < R) => take_getDF (g := unitsF n R) (k := k) (by rw [unitsF_len]; exact hk)))
 have HUA := hZ (fun k j (hk : k < R) (hj : j < n) => unitsF_at hk hj)
 have HUL := hZ (fun k (hk : k < R) => unitsF_rect n R k (by rw [unitsF_len]; exact hk))
 obtain ⟨U, hU⟩ : ∃ U, unitsF n R = U := ⟨_, rfl⟩
 rw [hU] at HU HUA HUL ⊢
 clear hU
 go_enter Tryz.func96, Tryz.ntmps96
 go_wp2
 refine wp_name fun w1 hW1 => ?_
 have hB1 : Below w.heap.size w w1 := by rw [hW1]; repeat (first|exact bzR _ _|exact hB|refine bzD ?_|refine bzN ?_|refine bzS ?_|refine bzA ?_)
 have p0 : w1.cell? ⟨w.heap.size, 0, none⟩ = some (.int .i64 (n : Int)) := by rw [hW1]; simp [go_sem]
 have hBw1 := Below.refl w1.heap.size w1
 clear hW1 hB
 go_loopw [3, 8] (fun v x wr => ∃ k : Nat, k ≤ R ∧ x = .int .i64 k ∧ Hid (OwnL 38 (FRow w.heap.size) w1 wr v (U.take k))) (fun _ x _ => R - (intOf x).toNat)
 case atStart => exact ⟨0, Nat.zero_le _, rfl, hZ (OwnL.nil _ _ hBw1)⟩
 case round =>
  obtain ⟨k, hk, rfl, HO⟩ := hrel
  have hBr := HO.out.bel
  have hlen : (U.take k).length = k := by rw [List.length_take, HU.out.1]; omega
  obtain ⟨va, vcp, hv⟩ := HO.out.ex
  rw [hlen] at hv
  subst hv
  have q0 := bkeep hBr p0
  have zq := cell_lt q0
  by_cases hlt : k < R
  · have hltI : (k : Int) < (R : Int) := by omega
    have HTK := hZ (HU.out.2 k hlt).symm
    have hul := HUL.out k hlt
    have HLL := hZ hlen
    have hwr : w.heap.size ≤ wr.heap.size := by omega
    obtain ⟨G, hG⟩ : ∃ G, U.take k = G := ⟨_, rfl⟩
    rw [hG] at HO HTK HLL hlen
    have HZ := hZ (zcelQ_blk wr n rfl)
    have hBw := Below.refl wr.heap.size wr
    have HUK := hZ (fun j (hj : j < n) => HUA.out k j hlt hj)
    obtain ⟨r, hr⟩ : ∃ r, U.getD k [] = r := ⟨_, rfl⟩
    rw [hr] at HTK hul HUK
    clear hG hBr hr
    by_cases hkn : k < n
    · have hknI : (k : Int) < (n : Int) := by omega
      have hknD : decide ((k : Int) < (n : Int)) = true := decide_eq_true hknI
      go_wp2_with fail
      (with_reducible refine (OC.out _).mono ?_)
      rintro e w5 ⟨⟨u5, rfl, hu5⟩, hb5⟩
      have hk5 : Below wr.heap.size wr w5 := bthen bZ hb5
      have HZ5 := hZ (HZ.out.keep frk_prog hb5)
      have WC := hZ (fun V (q : Below w5.heap.size w5 V) => pqWhole_c u5 1 V (hu5.keep q))
      have hBw5 := Below.refl w5.heap.size w5
      obtain ⟨pn, pa, pl, pc, rfl⟩ := hu5.lit
      clear hb5 hu5 HZ OC
      go_wp2_with fail
      (with_reducible refine (WC.out _ ?_).mono ?_); (repeat (first|exact bzR _ _|exact hBw5|refine bzD ?_|refine bzN ?_|refine bzS ?_|refine bzA ?_))
      rintro e w6 ⟨⟨u6, rfl, hu6⟩, hb6⟩
      have hk56 : Below w5.heap.size w5 w6 := bthen bZ hb6
      have hk6 := bthen hk5 hk56
      have HZ6 := hZ (HZ5.out.keep frk_prog hk56)
      have HU6 := hZ hu6
      obtain ⟨m1, b1, k1, d1, m2, b2, k2, d2, rfl, -, -⟩ := hu6
      obtain ⟨f5, z5, x5, y5, f6, z6, x6, y6, e0, e1, e2, e3, -⟩ := HZ6.out.at_ k hkn
      have hfr := HZ6.out.fr.2
      have e0f := hfr (k * 4)
      have e1f := hfr (k * 4 + 1)
      have e2f := hfr (k * 4 + 2)
      have e3f := hfr (k * 4 + 3)
      have ze := cell_lt e0
      clear WC hb6 hk5 hk56 hBw5 HZ5 q0 hfr zq
      go_upto_region 8 with (fail)
      refine wp_name fun w7 hW7 => ?_
      have hb7 : Below wr.heap.size wr w7 := by rw [hW7]; exact bset (bset (bset (bset hk6 (Nat.le_refl _) _) (Nat.le_refl _) _) (Nat.le_refl _) _) (Nat.le_refl _) _
      have HR7 := hZ (show FRow w.heap.size w7 (.slice (some ⟨wr.heap.size, 0, none⟩) n n) r from by
       have hz : FrBlk IsQP 79 w7 wr.heap.size n (fun i => if i = k then ((1 : Int) : Rat) else 0) := by rw [hW7]; exact HZ6.out.put frk_prog hkn HU6.out
       refine ⟨_, n, by rw [hul], by rw [hul]; exact Nat.le_refl _, .inr ⟨wr.heap.size, 0, rfl, hwr, hz.ty, fun j hj => ?_⟩⟩
       rw [hul] at hj
       rw [Nat.zero_add, HUK.out j hj]
       exact hz.at_ j hj)
      clear HZ6 HU6 e0 e1 e2 e3 e0f e1f e2f e3f ze hk6 hBw
      have HO7 := hZ (HO.out.below (prs_frow _) hb7)
      have hll := HLL.out
      have hLL : (G.length + 1) * 24 ≤ 140737488355328 := by rw [hll]; omega
      have hLM : G.length + 1 ≤ maxLen := by rw [hll]; unfold maxLen; omega
      clear hW7 hb7
      go_wp2_with (at_builtin; refine appL elRats (prs_frow _) (by decide) (by rfl) (by rfl) (HO7.out.below (prs_frow _) (bal (Below.refl _ _) _)) ((prs_frow _).kp HR7.out (Kp.of_below _ (bal (Below.refl _ _) _))) (by rfl) (by rfl) (cell_new rfl rfl) hLL hLM ?_)
      intro v' w8 hO8 hk8
      have HO8 := hZ hO8
      rw [HTK.out] at HO8
      clear hO8 hk8
      go_wp2
      exact ⟨⟨k + 1, hlt, by go_num, HO8⟩, meas hlt (by go_num) rfl⟩
    · have hknD : decide ((k : Int) < (n : Int)) = false := decide_eq_false (by omega)
      go_upto_region 8 with (fail)
      refine wp_name fun w7 hW7 => ?_
      have hb7 : Below wr.heap.size wr w7 := by rw [hW7]; repeat (first|exact bzR _ _|exact hBw|refine bzD ?_|refine bzN ?_|refine bzS ?_|refine bzA ?_)
      have HR7 := hZ (show FRow w.heap.size w7 (.slice (some ⟨wr.heap.size, 0, none⟩) n n) r from by
       have hz : FrBlk IsQP 79 w7 wr.heap.size n (fun i => 0) := by rw [hW7]; exact HZ.out
       refine ⟨_, n, by rw [hul], by rw [hul]; exact Nat.le_refl _, .inr ⟨wr.heap.size, 0, rfl, hwr, hz.ty, fun j hj => ?_⟩⟩
       rw [hul] at hj
       rw [Nat.zero_add, HUK.out j hj, if_neg (by omega)]
       exact hz.at_ j hj)
      clear HZ OC q0 zq hBw
      have HO7 := hZ (HO.out.below (prs_frow _) hb7)
      have hll := HLL.out
      have hLL : (G.length + 1) * 24 ≤ 140737488355328 := by rw [hll]; omega
      have hLM : G.length + 1 ≤ maxLen := by rw [hll]; unfold maxLen; omega
      clear hW7 hb7
      go_wp2_with (at_builtin; refine appL elRats (prs_frow _) (by decide) (by rfl) (by rfl) (HO7.out.below (prs_frow _) (bal (Below.refl _ _) _)) ((prs_frow _).kp HR7.out (Kp.of_below _ (bal (Below.refl _ _) _))) (by rfl) (by rfl) (cell_new rfl rfl) hLL hLM ?_)
      intro v' w8 hO8 hk8
      have HO8 := hZ hO8
      rw [HTK.out] at HO8
      clear hO8 hk8
      go_wp2
      exact ⟨⟨k + 1, hlt, by go_num, HO8⟩, meas hlt (by go_num) rfl⟩
  · obtain rfl : k = R := by omega
    have hltI : ¬ (k : Int) < (k : Int) := by omega
    rw [show U.take k = U from by rw [← HU.out.1]; exact List.take_length] at HO
    have HF := hZ (HO.out.rebase hB1)
    have hBf := bthen hB1 hBr
    clear HO
    go_wp2
    go_ret
    exact ⟨⟨_, rfl, HF.out⟩, hBf⟩
end
section
open Num
attribute [local go_sem ↓] Go.wp_at_zero Go.wp_at_succ
theorem range_snocQ (f : Nat → Rat) (j : Nat) : (List.range j).map f ++ [f j] = (List.range (j + 1)).map f := by
 rw [List.range_succ, List.map_append]; rfl
end
section
open Num
attribute [local go_sem ↓] Go.wp_at_zero Go.wp_at_succ
def OwnP (base : Nat) (w0 w : World) (v : Value) (g : GridF) : Prop := ∃ L : List (Nat × List Rat), OwnL 38 (PRp base) w0 w v L ∧ L.map Prod.snd = g ∧ (∀ i j, i < j → j < L.length → (L.getD i default).1 < (L.getD j default).1)
theorem OwnP.nil {base : Nat} {w0 w : World} (hb : Below w0.heap.size w0 w) : OwnP base w0 w (.slice none 0 0) [] := ⟨[], OwnL.nil _ _ hb, rfl, fun i j _ hj => by simp at hj⟩
theorem OwnP.bel {base : Nat} {w0 w : World} {v : Value} {g : GridF} (h : OwnP base w0 w v g) : Below w0.heap.size w0 w := by obtain ⟨L, h1, _⟩ := h; exact h1.bel
theorem OwnP.ex {base : Nat} {w0 w : World} {v : Value} {g : GridF} (h : OwnP base w0 w v g) : ∃ a c, v = .slice a g.length c := by
 obtain ⟨L, h1, rfl, _⟩ := h; rw [List.length_map]; exact h1.ex
theorem OwnP.ltb {base : Nat} {w0 w : World} {v : Value} {L : List (Nat × List Rat)} (h : OwnL 38 (PRp base) w0 w v L) : ∀ i, i < L.length → (L.getD i default).1 < w.heap.size := fun i hi => by
 obtain ⟨xs, _, h2⟩ := h
 obtain ⟨u, hu, c, e, _, _, hI⟩ := h2 i hi
 have : L.getD i default = L[i] := by simp [hi]
 rw [this]; exact typ_lt hI.ty
theorem OwnP.isL {base : Nat} {w0 w : World} {v : Value} {g : GridF} (h : OwnP base w0 w v g) : IsL 38 (FRow base) w0.heap.size w v g := by
 obtain ⟨L, h1, rfl, _⟩ := h
 obtain ⟨a, c, rfl, hc, hm, h2⟩ := h1.isL
 refine ⟨a, c, by rw [List.length_map], by rw [List.length_map]; exact hc, hm, ?_⟩
 rcases h2 with rfl | ⟨b, off, rfl, hb, ht, h3⟩
 · exact .inl rfl
 · refine .inr ⟨b, off, rfl, hb, ht, fun k hk => ?_⟩
   rw [List.length_map] at hk
   obtain ⟨u, hu, hp⟩ := h3 k hk
   exact ⟨u, hu, by simpa using hp.frow⟩
theorem OwnP.snoc {base : Nat} {w0 w : World} {v : Value} {L : List (Nat × List Rat)} {g : GridF} {b : Nat} {r : List Rat} (h : OwnL 38 (PRp base) w0 w v (L ++ [(b, r)])) (hs : L.map Prod.snd = g) (hinc : ∀ i j, i < j → j < L.length → (L.getD i default).1 < (L.getD j default).1) (hlt : ∀ i, i < L.length → (L.getD i default).1 < b) : OwnP base w0 w v (g ++ [r]) := by
 refine ⟨_, h, by rw [List.map_append, hs]; rfl, fun i j hij hj => ?_⟩
 rw [List.length_append, List.length_singleton] at hj
 by_cases e : j < L.length
 · rw [getD_app_lt e, getD_app_lt (by omega)]; exact hinc i j hij e
 · obtain rfl : j = L.length := by omega
   rw [getD_app_lt (by omega), getD_app_eq]
   exact hlt i hij
def OutsPost (outs : List Int) (g : GridF) (w : World) (e : Ending) (w' : World) : Prop := (∃ v, e = .returned v ∧ OwnP w.heap.size w w' v (outsF outs g)) ∧ Below w.heap.size w w'
theorem outsF_take {outs : List Int} {g : GridF} {k : Nat} (h : k < outs.length) : (outsF outs g).take (k + 1) = (outsF outs g).take k ++ [g.getD (outs.getD k 0).toNat []] := by
 rw [take_getDF (by simp [outsF]; exact h)]
 simp [outsF, h]
theorem outsQ_c (ins regs : Int) (ca oa : Option Addr) (cl cc oc : Nat) (outs : List Int) (rb rc m : Nat) (g : GridF) (w : World) (ho : IntsV w oa oc outs) (hos : ∀ k, k < outs.length → 0 ≤ outs.getD k 0 ∧ outs.getD k 0 < (g.length : Int)) (hr : ∃ S, RegsF S w rb g) (hR : RectF m g) (h1 : 1 ≤ m) (hm : m ≤ 1099511627775) (hol : outs.length ≤ 128) :
 Calls Tryz.prog 98 #[.agg #[.int .i64 ins, .int .i64 regs, .slice ca cl cc, .slice oa outs.length oc], .slice (some ⟨rb, 0, none⟩) g.length rc] w (OutsPost outs g w) := by
 have HO := hZ ho
 have HOS := hZ hos
 have HRG := hZ hr
 have HRC := hZ hR
 have HOT := hZ (fun k (hk : k < outs.length) => outsF_take (g := g) hk)
 obtain ⟨n, hn⟩ : ∃ n, outs.length = n := ⟨_, rfl⟩
 have HN := hZ hn
 have HFL := hZ (show (outsF outs g).length = n from by rw [← hn]; simp [outsF])
 obtain ⟨OF, hOF⟩ : ∃ OF, outsF outs g = OF := ⟨_, rfl⟩
 unfold OutsPost
 rw [hOF] at HOT HFL ⊢
 rw [hn] at hol ⊢
 obtain ⟨R, hRR⟩ : ∃ R, g.length = R := ⟨_, rfl⟩
 have HRR := hZ hRR
 rw [hRR]
 clear ho hos hr hR hn hOF hRR
 have hB := Below.refl w.heap.size w
 go_enter Tryz.func98, Tryz.ntmps98
 go_wp2
 refine wp_name fun w1 hW1 => ?_
 have hB1 : Below w.heap.size w w1 := by rw [hW1]; repeat (first|exact bzR _ _|exact hB|refine bzD ?_|refine bzN ?_|refine bzS ?_|refine bzA ?_)
 have hBw1 := Below.refl w1.heap.size w1
 clear hW1 hB
 go_loopw [5, 11] (fun v x wr => ∃ k : Nat, k ≤ n ∧ x = .int .i64 k ∧ Hid (OwnP w.heap.size w1 wr v (OF.take k))) (fun _ x _ => n - (intOf x).toNat)
 case atStart => exact ⟨0, Nat.zero_le _, rfl, hZ (OwnP.nil hBw1)⟩
 case round =>
  obtain ⟨k, hk, rfl, HO5⟩ := hrel
  have hBr := HO5.out.bel
  have hlen : (OF.take k).length = k := by rw [List.length_take, HFL.out]; omega
  obtain ⟨va, vcp, hv⟩ := HO5.out.ex
  rw [hlen] at hv
  subst hv
  have hBW : Below w.heap.size w wr := bthen hB1 hBr
  by_cases hlt : k < n
  · have hltI : (k : Int) < (n : Int) := by omega
    have hko : k < outs.length := by rw [HN.out]; exact hlt
    rcases HO.out with h0 | ⟨ob, oo, rfl, hcap, hcell⟩
    · rw [h0] at hko; simp at hko
    have hoc := bkeep hBW (hcell k hko)
    obtain ⟨hk0, hk1⟩ := HOS.out k hko
    have hot := HOT.out k hko
    obtain ⟨q, hq⟩ : ∃ q : Nat, outs.getD k 0 = q := ⟨(outs.getD k 0).toNat, by omega⟩
    rw [hq] at hoc hk0 hk1 hot
    rw [Int.toNat_natCast] at hot
    have hqR : q < g.length := by omega
    have hqI : (q : Int) < (R : Int) := by rw [← HRR.out]; omega
    obtain ⟨S, hrs⟩ := HRG.out
    obtain ⟨u, hu, hx⟩ := hrs.cell q hqR
    have hlr := HRC.out q hqR
    obtain ⟨r, hr⟩ : ∃ r, g.getD q [] = r := ⟨_, rfl⟩
    rw [hr] at hot hx hlr
    have HOTK := hZ hot
    have CC := hZ (fun V (h : Below w.heap.size w V) => cloneQ_c u r V (hx.1.keep h) (by omega))
    obtain ⟨ua, uc, rfl⟩ := FrRow.ex hx.1
    have hru := bkeep hBW hu
    have zo := cell_lt hoc
    have zu := cell_lt hru
    have HLR := hZ hlr
    have hBw := Below.refl wr.heap.size wr
    clear hot hx hr hq hcell hu hrs hlr
    go_wp2_with fail
    (with_reducible refine (CC.out _ ?_).mono ?_); (repeat (first|exact bzR _ _|exact hBW|refine bzD ?_|refine bzN ?_|refine bzS ?_|refine bzA ?_))
    rintro e w5 ⟨⟨v5, rfl, hv5⟩, hb5⟩
    have hk5 : Below wr.heap.size wr w5 := bthen bZ hb5
    obtain ⟨b, hpb⟩ := hv5.prp (by rw [HLR.out]; omega)
    have hwrb : wr.heap.size ≤ b := by obtain ⟨c, e, hc, hb, _⟩ := hpb; exact Nat.le_trans (show wr.heap.size ≤ _ from (by first | exact Nat.le_refl _ | exact (show Below wr.heap.size wr _ by repeat (first|exact bzR _ _|exact hBw|refine bzD ?_|refine bzN ?_|refine bzS ?_|refine bzA ?_)).size)) hb
    have HPB := hZ (hpb.rebase (show w.heap.size ≤ _ from Nat.le_trans hBW.size (by first | exact Nat.le_refl _ | exact (show Below wr.heap.size wr _ by repeat (first|exact bzR _ _|exact hBw|refine bzD ?_|refine bzN ?_|refine bzS ?_|refine bzA ?_)).size)))
    obtain ⟨a5, c5, rfl⟩ := hv5.ex
    obtain ⟨L, hL, hLs, hinc⟩ := HO5.out
    have HL := hZ (And.intro hLs (And.intro hinc (OwnP.ltb hL)))
    have HLo := hZ (hL.below (prs_prp _) hk5)
    have hll : L.length = k := by rw [← List.length_map (f := Prod.snd), hLs]; exact hlen
    have hLL : (L.length + 1) * 24 ≤ 140737488355328 := by rw [hll]; omega
    have hLM : L.length + 1 ≤ maxLen := by rw [hll]; unfold maxLen; omega
    clear hll
    clear CC hb5 hpb hL hLs hinc hv5 HO5 hoc hru zo zu hBw
    go_wp2_with (at_builtin; refine appL elRats (prs_prp _) (by decide) (by rfl) (by rfl) (HLo.out.below (prs_prp _) (bal (Below.refl _ _) _)) ((prs_prp _).kp HPB.out (Kp.of_below _ (bal (Below.refl _ _) _))) (by rfl) (by rfl) (cell_new rfl rfl) hLL hLM ?_)
    intro v' w8 hO8 hk8
    have HO8 := hZ (show OwnP w.heap.size w1 w8 v' (OF.take (k + 1)) from by
     rw [HOTK.out]
     exact OwnP.snoc hO8 HL.out.1 HL.out.2.1 (fun i hi => by have := HL.out.2.2 i hi; omega))
    clear hO8 hk8
    go_wp2
    exact ⟨⟨k + 1, hlt, by go_num, HO8⟩, meas hlt (by go_num) rfl⟩
  · obtain rfl : k = n := by omega
    have hltI : ¬ (k : Int) < (k : Int) := by omega
    rw [show OF.take k = OF from by rw [← HFL.out]; exact List.take_length] at HO5
    have HF := hZ (show OwnP w.heap.size w wr _ OF from by
     obtain ⟨L, h1, h2, h3⟩ := HO5.out
     exact ⟨L, h1.rebase hB1, h2, h3⟩)
    clear HO5
    go_wp2
    go_ret
    exact ⟨⟨_, rfl, HF.out⟩, hBW⟩
theorem always_q (k : Int) (v : Value) (w : World) (hv : ∃ a n c, v = .slice a n c) : Calls Tryz.prog 97 #[.int .i64 k, v] w fun e w' => e = .returned (.bool true) ∧ Below w.heap.size w w' := by
 obtain ⟨a, n, c, rfl⟩ := hv
 have hB := Below.refl w.heap.size w
 go_enter Tryz.func97, Tryz.ntmps97
 go_wp2
 go_ret
 exact ⟨rfl, bZ⟩
end
end Go.Proofs.YtbmaffijncapiaaGreatDoor
