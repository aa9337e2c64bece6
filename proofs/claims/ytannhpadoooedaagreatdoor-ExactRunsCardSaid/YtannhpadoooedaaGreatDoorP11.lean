/- Texts of this seat, laid together: ExK, ExL, RefO, RefQ, RtA, ExG, ExH, ExI, VwF, VwG. Each opens with its own remark, which says what it proves, and under which conditions. -/
import Derived.Test.YtannhpadoooedaaGreatDoorP09
import Derived.Test.YtannhpadoooedaaGreatDoorP10
import Derived.Deep.LoopGhost
import Derived.Deep.RegionLaw
import Derived.Test.YtannhpadoooedaaGreatDoorP08
import Derived.Test.YtannhpadoooedaaGreatDoorP03
import Derived.Deep.DeepCutAuto
import Derived.Deep.DrawnRows
import Derived.Test.YtannhpadoooedaaGreatDoorP07
import Derived.Test.YtannhpadoooedaaGreatDoorP06
import Derived.Test.YtannhpadoooedaaGreatDoorP02
set_option linter.unusedVariables false
set_option linter.unusedSimpArgs false
/- exact: run on numbers, told to a loop's body. -/
namespace Go.Proofs.YtannhpadoooedaaGreatDoor
open Num
open Go.ChangeShapes Go.WideShapes Go.ChangeAt Go.RowKit
set_option linter.unusedVariables false
set_option linter.unusedSimpArgs false
attribute [local go_sem ↓] Go.wp_at_zero Go.wp_at_succ
/-- the number that the n-th instruction sets -/
def toldN (code : List Ins) (r : List Int) (n : Nat) : Int :=
  match afterN code r n with
  | some s => (opI (code.getD n default) (s.getD (code.getD n default).a.toNat 0) (s.getD (code.getD n default).b.toNat 0)).getD 0
  | none => 0
theorem toldN_eq {code : List Ins} {r s : List Int} {n : Nat} {x : Int} (e : afterN code r n = some s) (e2 : opI (code.getD n default) (s.getD (code.getD n default).a.toNat 0) (s.getD (code.getD n default).b.toNat 0) = some x) : toldN code r n = x := by
  unfold toldN; rw [e]; dsimp only; rw [e2]; rfl
/-- how many instructions are told -/
structure ToldM (code : List Ins) (r : List Int) (m : Nat) : Prop where
  le : m ≤ code.length
  has : ∃ s, afterN code r m = some s
  stop : m < code.length → afterN code r (m + 1) = none
theorem ToldM.lt {code : List Ins} {r : List Int} {m n : Nat} (h : ToldM code r m) (hn : n < code.length) {s : List Int} (e : afterN code r (n + 1) = some s) (hm : n ≤ m) : n < m := by
  rcases Nat.lt_or_ge n m with h1 | h1
  · exact h1
  · obtain rfl : n = m := by omega
    rw [h.stop hn] at e; cases e
theorem ToldM.eq {code : List Ins} {r : List Int} {m n : Nat} (h : ToldM code r m) (e : afterN code r (n + 1) = none) (hm : n ≤ m) : n = m := by
  rcases Nat.lt_or_ge n m with h1 | h1
  · obtain ⟨s, hs⟩ := h.has
    rw [afterN_mono e (show n + 1 ≤ m by omega)] at hs; cases hs
  · omega
theorem out_others {X : Nat → Prop} {a b : World} (h : Out X a b) (hx : ∀ q, X q → q < a.heap.size → ∃ o : Obj, a.heap[q]? = some o ∧ o.isCells = true) : KeepsOthers a b :=
  ⟨h.size, fun k o hk ho => by
    have hl := (Array.getElem?_eq_some_iff.1 hk).1
    rw [h.block k hl (fun hX => by
      obtain ⟨o', ho', hc⟩ := hx k hX hl
      rw [hk] at ho'; cases ho'; rw [ho] at hc; cases hc)]
    exact hk⟩
theorem typ_cells {w : World} {q : Nat} {t : TypeId} (h : typOf w q = some t) : ∃ o : Obj, w.heap[q]? = some o ∧ o.isCells = true := by
  unfold typOf at h
  cases e : w.heap[q]? with
  | none => rw [e] at h; cases h
  | some o =>
    rw [e] at h
    cases o with
    | cells c t' f => exact ⟨_, rfl, rfl⟩
    | _ => cases h
theorem typ_outK {X : Nat → Prop} {a b : World} {g : Nat} {t : TypeId} (h : typOf a g = some t) (ho : Out X a b) (hx : ¬ X g) : typOf b g = some t := by
  rw [typ_of_block (w := a) (ho.block g (typ_lt h) hx)]; exact h
/-- what is told: the k-th number -/
def AN (code : List Ins) (r : List Int) (k : Nat) (args : Array Value) (X : World) : Prop := ∃ v, args = #[.int .i64 (k : Int), v] ∧ IsInt X v (toldN code r k)
/-- what a loop's body is asked -/
def YieldsV (l m : Nat) (X0 : Nat → Prop) (A : Nat → Array Value → World → Prop) (J Jx : Nat → World → Prop) : Prop :=
  ∀ k args X, k < m → J k X → A k args X → YieldAt Fence.wide 3 Tryz.prog l args X fun e Y => (e = .returned (.bool true) ∧ J (k + 1) Y ∧ OutT X0 X Y) ∨ (e = .returned (.bool false) ∧ Jx (k + 1) Y)
/-- what run answers, that is told to a body -/
def RunYPost (m : Nat) (J Jx : Nat → World → Prop) (e : Ending) (w' : World) : Prop := (∃ q : Int, e = .returned (.int .i64 q)) ∧ (J m w' ∨ ∃ k, k ≤ m ∧ Jx k w')
set_option maxRecDepth 100000 in
set_option maxHeartbeats 16000000 in
theorem runY_c (l n0 M : Nat) (X0 : Nat → Prop) (J Jx : Nat → World → Prop) (hJ : ∀ k X Y, J k X → Below n0 X Y → KeepsOthers X Y → J k Y) (hX0 : ∀ q, X0 q → q < n0) (ins regs : Int) (ca oa : Option Addr) (cc ol oc : Nat) (code : List Ins) (r : List Int) (K rb : Nat) (w : World) (hc : InsV w ca cc code) (hcs : ∀ n, n < code.length → InsOk (code.getD n default) r.length) (hcl : code.length ≤ 16384) (hCs : Cs code) (hr128 : r.length ≤ 128)
    (hI : IntsF IsInt w rb 0 r.length (fun j => r.getD j 0)) (hF : Free w rb) (hT : typOf w rb = some 48) (hb : ∀ j, Bd K (r.getD j 0)) (hK : K ≤ 2147483648) (hne : ∀ b off, ca = some ⟨b, off, none⟩ → 0 < code.length → b ≠ rb ∧ ¬ X0 b) (hM : ToldM code r M) (hY : YieldsV l M X0 (AN code r) J Jx) (hn0 : n0 ≤ rb) (hXT : ∀ q, X0 q → typOf w q = some 3) (h00 : J 0 w) :
    Calls Tryz.prog 57 #[numV, .agg #[.int .i64 ins, .int .i64 regs, .slice ca code.length cc, .slice oa ol oc], .slice (some ⟨rb, 0, none⟩) r.length r.length, .func (.yield l) #[] #[]] w (RunYPost M J Jx) := by
  have HC := Lib.hid hc
  have HCS := Lib.hid hcs
  have HCs := Lib.hid hCs
  have HBD := Lib.hid hb
  have HYY := Lib.hid hY
  have HJ := Lib.hid hJ
  have HX0 := Lib.hid (And.intro hX0 hXT)
  have HM := Lib.hid hM
  have H00 := Lib.hid h00
  have HNE := Lib.hid hne
  have HI := Lib.hid (And.intro hI (And.intro hF hT))
  have zrb := hF.1
  clear hc hcs hCs hb hI hF hT hne hY hJ hX0 hXT hM h00
  have hB := Below.refl w.heap.size w
  unfold numV
  obtain ⟨R, hR⟩ : ∃ R, r.length = R := ⟨_, rfl⟩
  rw [hR] at HI HCS hr128 ⊢
  have HR := Lib.hid hR
  clear hR
  go_enter Tryz.func57, Tryz.ntmps57
  go_wp2
  go_step3
  go_wp2
  go_step3
  go_wp2
  refine wp_name fun w0 hW0 => ?_
  have f0 : w0.cell? ⟨w.heap.size, 0, none⟩ = some (.func (.func 101) #[] #[]) := by rw [hW0]; exact (by first | assumption | exact cell_new (by with_reducible first | rfl | (simp; done) | (simp; omega)) rfl | (repeat (first | assumption | exact cell_new (by with_reducible first | rfl | (simp; done) | (simp; omega)) rfl | refine cell_alloc ?_ _ | refine cell_drew ?_ | refine cell_drewN ?_ _ | refine cell_far ?_ (by simp) _ | (refine cell_far ?_ (by simp <;> omega) _))) | simp [go_sem, *])
  have zf0 := cell_lt f0
  have f1 : w0.cell? ⟨w.heap.size, 1, none⟩ = some (.func (.func 102) #[] #[]) := by rw [hW0]; exact (by first | assumption | exact cell_new (by with_reducible first | rfl | (simp; done) | (simp; omega)) rfl | (repeat (first | assumption | exact cell_new (by with_reducible first | rfl | (simp; done) | (simp; omega)) rfl | refine cell_alloc ?_ _ | refine cell_drew ?_ | refine cell_drewN ?_ _ | refine cell_far ?_ (by simp) _ | (refine cell_far ?_ (by simp <;> omega) _))) | simp [go_sem, *])
  have f2 : w0.cell? ⟨w.heap.size, 2, none⟩ = some (.func (.func 103) #[] #[]) := by rw [hW0]; exact (by first | assumption | exact cell_new (by with_reducible first | rfl | (simp; done) | (simp; omega)) rfl | (repeat (first | assumption | exact cell_new (by with_reducible first | rfl | (simp; done) | (simp; omega)) rfl | refine cell_alloc ?_ _ | refine cell_drew ?_ | refine cell_drewN ?_ _ | refine cell_far ?_ (by simp) _ | (refine cell_far ?_ (by simp <;> omega) _))) | simp [go_sem, *])
  have f3 : w0.cell? ⟨w.heap.size, 3, none⟩ = some (.func (.func 96) #[] #[]) := by rw [hW0]; exact (by first | assumption | exact cell_new (by with_reducible first | rfl | (simp; done) | (simp; omega)) rfl | (repeat (first | assumption | exact cell_new (by with_reducible first | rfl | (simp; done) | (simp; omega)) rfl | refine cell_alloc ?_ _ | refine cell_drew ?_ | refine cell_drewN ?_ _ | refine cell_far ?_ (by simp) _ | (refine cell_far ?_ (by simp <;> omega) _))) | simp [go_sem, *])
  have f4 : w0.cell? ⟨w.heap.size, 4, none⟩ = some (.func (.func 104) #[] #[]) := by rw [hW0]; exact (by first | assumption | exact cell_new (by with_reducible first | rfl | (simp; done) | (simp; omega)) rfl | (repeat (first | assumption | exact cell_new (by with_reducible first | rfl | (simp; done) | (simp; omega)) rfl | refine cell_alloc ?_ _ | refine cell_drew ?_ | refine cell_drewN ?_ _ | refine cell_far ?_ (by simp) _ | (refine cell_far ?_ (by simp <;> omega) _))) | simp [go_sem, *])
  have p2 : w0.cell? ⟨w.heap.size + 1, 2, none⟩ = some (.slice ca code.length cc) := by rw [hW0]; exact (by first | assumption | exact cell_new (by with_reducible first | rfl | (simp; done) | (simp; omega)) rfl | (repeat (first | assumption | exact cell_new (by with_reducible first | rfl | (simp; done) | (simp; omega)) rfl | refine cell_alloc ?_ _ | refine cell_drew ?_ | refine cell_drewN ?_ _ | refine cell_far ?_ (by simp) _ | (refine cell_far ?_ (by simp <;> omega) _))) | simp [go_sem, *])
  have zp2 := cell_lt p2
  have hB : Below w.heap.size w w0 := by rw [hW0]; repeat (first | exact Below.refl _ _ | exact hB | refine Below.drew ?_ | refine below_drewN ?_ _ | refine bset ?_ (by simp <;> omega) _ | refine bal ?_ _)
  have hz : w.heap.size ≤ w0.heap.size := hB.size
  clear hW0
  have HP := Lib.hid (show ∀ W, Out (fun k => k = rb ∨ X0 k) w0 W → W.cell? ⟨w.heap.size, 0, none⟩ = some (.func (.func 101) #[] #[]) ∧ W.cell? ⟨w.heap.size, 1, none⟩ = some (.func (.func 102) #[] #[]) ∧ W.cell? ⟨w.heap.size, 2, none⟩ = some (.func (.func 103) #[] #[]) ∧ W.cell? ⟨w.heap.size, 3, none⟩ = some (.func (.func 96) #[] #[]) ∧ W.cell? ⟨w.heap.size, 4, none⟩ = some (.func (.func 104) #[] #[]) ∧ W.cell? ⟨w.heap.size + 1, 2, none⟩ = some (.slice ca code.length cc) from fun W h =>
    have hne : ¬ (w.heap.size = rb ∨ X0 w.heap.size) := fun h => by rcases h with h | h; (omega); (have := HX0.out.1 _ h; omega)
    have hne1 : ¬ (w.heap.size + 1 = rb ∨ X0 (w.heap.size + 1)) := fun h => by rcases h with h | h; (omega); (have := HX0.out.1 _ h; omega)
    ⟨okeep h f0 hne, okeep h f1 hne, okeep h f2 hne, okeep h f3 hne, okeep h f4 hne, okeep h p2 hne1⟩)
  have hO0 := Out.of_below (fun k => k = rb ∨ X0 k) hB
  clear f0 f1 f2 f3 f4 p2
  go_loopw [16] (fun x wr => ∃ n : Nat, n ≤ code.length ∧ x = .int .i64 n ∧ Out (fun k => k = rb ∨ X0 k) w0 wr ∧ Hid (∃ s, afterN code r n = some s ∧ IntsF IsInt wr rb 0 R (fun j => s.getD j 0) ∧ Free wr rb ∧ typOf wr rb = some 48) ∧ n ≤ M ∧ Hid (J n wr) ∧ Hid (∀ q, X0 q → typOf wr q = some 3)) (fun x _ => code.length - (intOf x).toNat)
  case atStart => exact ⟨0, Nat.zero_le _, rfl, Out.refl _ _, Lib.hid ⟨r, rfl, HI.out.1.keep lims_int hB, HI.out.2.1.keep hB, typ_keep HI.out.2.2 hB⟩, Nat.zero_le _, Lib.hid (HJ.out 0 _ _ H00.out (hB.mono (by omega)) (out_others (Out.of_below (fun _ => False) hB) fun _ h => h.elim)), Lib.hid fun q hq => typ_keep (HX0.out.2 q hq) hB⟩
  case round =>
    obtain ⟨n, hn, rfl, hOr, hrel, hnM, hJn, hXt⟩ := hrel
    obtain ⟨s, hs, hI, hF, hT⟩ := hrel.out
    have HS := Lib.hid (And.intro hs (And.intro hI (And.intro hF hT)))
    have hOw : Out (fun k => k = rb ∨ X0 k) w wr := hO0.trans hOr
    have hsl := afterN_len hs
    have hbd := afterN_bd HBD.out HCs.out hn hs
    have HBN := Lib.hid (And.intro hsl hbd)
    have hz0 : w0.heap.size ≤ wr.heap.size := hOr.size
    obtain ⟨f0, f1, f2, f3, f4, p2⟩ := HP.out wr hOr
    clear hs hI hF hT hsl hbd hrel
    by_cases hlt : n < code.length
    · have hltI : (n : Int) < (code.length : Int) := by omega
      rcases HC.out with h0 | ⟨cb, co, rfl, hcap, hcell⟩
      · rw [h0] at hlt; simp at hlt
      have hcb : ¬ (cb = rb ∨ X0 cb) := fun h => by rcases h with h | h; exact (HNE.out cb co rfl (by omega)).1 h; exact (HNE.out cb co rfl (by omega)).2 h
      obtain ⟨q0, q1, q2, q3, q4⟩ := hcell n hlt
      replace q0 := okeep hOw q0 hcb
      replace q1 := okeep hOw q1 hcb
      replace q2 := okeep hOw q2 hcb
      replace q3 := okeep hOw q3 hcb
      replace q4 := okeep hOw q4 hcb
      have zq := cell_lt q0
      have zf := cell_lt f0
      have zp := cell_lt p2
      have hio := HCS.out n hlt
      have dc := fun W (k : Below wr.heap.size wr W) => doN_c (code.getD n default) (K + 65 * n) rb R (fun j => s.getD j 0) W (HS.out.2.1.keep lims_int k) hio (fun j _ => HBN.out.2 j) (by omega) hr128
      have HNX := Lib.hid (fun (s : List Int) (e : afterN code r n = some s) => afterN_succ e)
      have t0 := hio.t0
      have t1 := hio.t1
      obtain ⟨Z, hZ⟩ : ∃ Z, opI (code.getD n default) (s.getD (code.getD n default).a.toNat 0) (s.getD (code.getD n default).b.toNat 0) = Z := ⟨_, rfl⟩
      rw [hZ] at dc
      have HZ := Lib.hid hZ
      obtain ⟨i, hi⟩ : ∃ i, i = code.getD n default := ⟨_, rfl⟩
      rw [← hi] at q0 q1 q2 q3 q4 dc t0 t1
      have HIN := Lib.hid hi
      clear hi hcell hio hZ
      obtain ⟨op, it, ia, ib, ic⟩ := i
      dsimp only at q0 q1 q2 q3 q4 t0 t1
      obtain ⟨nt, rfl⟩ : ∃ x : Nat, it = x := ⟨it.toNat, by omega⟩
      have t1' : nt < R := by omega
      unfold Ins.v numV at dc
      dsimp only at dc
      unfold AnsP at dc
      have hBw := Below.refl wr.heap.size wr
      cases Z with
      | none =>
        dsimp only at dc
        go_wp2_with fail
        refine (dc _ (by repeat (first | exact Below.refl _ _ | exact hBw | refine Below.drew ?_ | refine below_drewN ?_ _ | refine bset ?_ (by simp <;> omega) _ | refine bal ?_ _))).mono ?_
        rintro e w5 ⟨⟨v5, x5, rfl, hi5⟩, hb5⟩
        have hB5 : Below wr.heap.size wr w5 := bthen (by repeat (first | exact Below.refl _ _ | exact hBw | refine Below.drew ?_ | refine below_drewN ?_ _ | refine bset ?_ (by simp <;> omega) _ | refine bal ?_ _)) hb5
        obtain ⟨n5, a5, c5, l5, rfl, -⟩ := hi5
        unfold iv at *
        clear dc
        go_wp2
        go_ret
        have hfa : afterN code r (n + 1) = none := by rw [HNX.out s HS.out.1, HZ.out]; rfl
        obtain rfl : n = M := HM.out.eq hfa hnM
        have hB6 : Below wr.heap.size wr (w5.alloc (.cells #[.bool n5, .slice a5 l5.length c5] 48)) := bal hB5 _
        exact ⟨⟨_, rfl⟩, .inl (HJ.out _ _ _ hJn.out (hB6.mono (by omega)) (out_others (Out.of_below (fun _ => False) hB6) fun _ h => h.elim))⟩
      | some z =>
        dsimp only at dc
        go_wp2_with fail
        refine (dc _ (by repeat (first | exact Below.refl _ _ | exact hBw | refine Below.drew ?_ | refine below_drewN ?_ _ | refine bset ?_ (by simp <;> omega) _ | refine bal ?_ _))).mono ?_
        rintro e w5 ⟨⟨v5, rfl, hi5⟩, hb5⟩
        have i1 : w5.cell? ⟨wr.heap.size, 1, none⟩ = some (.int .i64 nt) := bkeep hb5 (by first | exact cell_new rfl rfl | exact cell_drew (cell_new rfl rfl))
        have hB5 : Below wr.heap.size wr w5 := bthen (by repeat (first | exact Below.refl _ _ | exact hBw | refine Below.drew ?_ | refine below_drewN ?_ _ | refine bset ?_ (by simp <;> omega) _ | refine bal ?_ _)) hb5
        have HV5 := Lib.hid hi5
        obtain ⟨n5, a5, c5, l5, rfl, -⟩ := hi5
        unfold iv at *
        clear dc
        have hI5 := HS.out.2.1.keep lims_int hB5
        have hF5 := HS.out.2.2.1.keep hB5
        obtain ⟨nx, ax, lx, cx, o0, o1, -⟩ := hI5.at0 t1'
        have of0 := hF5.2 (nt * 2)
        have of1 := hF5.2 (nt * 2 + 1)
        have zo := cell_lt o0
        have zi := cell_lt i1
        have HI5 := Lib.hid (And.intro hI5 (And.intro hF5 (typ_keep HS.out.2.2.2 hB5)))
        clear hI5 hF5
        have hN : Hid (∀ W, W = ((w5.setCell ⟨rb, nt * 2, none⟩ (.bool n5)).setCell ⟨rb, nt * 2 + 1, none⟩ (.slice a5 l5.length c5)).alloc (.cells #[.bool n5, .slice a5 l5.length c5] 48) → IntsF IsInt W rb 0 R (fun j => (s.set nt z).getD j 0) ∧ Free W rb ∧ typOf W rb = some 48 ∧ IsInt W (.agg #[.bool n5, .slice a5 l5.length c5]) z ∧ Out (fun k => k = rb ∨ X0 k) w0 W ∧ W.cell? ⟨w5.heap.size, 0, none⟩ = some (.bool n5) ∧ W.cell? ⟨w5.heap.size, 1, none⟩ = some (.slice a5 l5.length c5) ∧ Out (fun k => k = rb) wr W) := Lib.hid fun W hW => by
          subst hW
          have ka : Below ((w5.setCell ⟨rb, nt * 2, none⟩ (.bool n5)).setCell ⟨rb, nt * 2 + 1, none⟩ (.slice a5 l5.length c5)).heap.size ((w5.setCell ⟨rb, nt * 2, none⟩ (.bool n5)).setCell ⟨rb, nt * 2 + 1, none⟩ (.slice a5 l5.length c5)) (((w5.setCell ⟨rb, nt * 2, none⟩ (.bool n5)).setCell ⟨rb, nt * 2 + 1, none⟩ (.slice a5 l5.length c5)).alloc (.cells #[.bool n5, .slice a5 l5.length c5] 48)) := bal (Below.refl _ _) _
          have oa : Out (fun k => k = rb ∨ X0 k) w0 ((w5.setCell ⟨rb, nt * 2, none⟩ (.bool n5)).setCell ⟨rb, nt * 2 + 1, none⟩ (.slice a5 l5.length c5)) := Out.set (Out.set (hOr.below hB5) (p := ⟨rb, nt * 2, none⟩) (fun _ => Or.inl rfl) _) (p := ⟨rb, nt * 2 + 1, none⟩) (fun _ => Or.inl rfl) _
          have ob : Out (fun k => k = rb) wr ((w5.setCell ⟨rb, nt * 2, none⟩ (.bool n5)).setCell ⟨rb, nt * 2 + 1, none⟩ (.slice a5 l5.length c5)) := Out.set (Out.set (Out.of_below (fun k => k = rb) hB5) (p := ⟨rb, nt * 2, none⟩) (fun _ => rfl) _) (p := ⟨rb, nt * 2 + 1, none⟩) (fun _ => rfl) _
          refine ⟨((IntsF.store0 lims_int HI5.out.1 t1' HV5.out).keep lims_int ka).congr fun j hj => ?_, ((HI5.out.2.1.set _ _).set _ _).keep ka, typ_keep (by rw [typ_set, typ_set]; exact HI5.out.2.2) ka, ((HV5.out).lim (Lim.set2 o0 o1 _ _)).keep ka, oa.below ka, cell_new (by simp) rfl, cell_new (by simp) rfl, ob.below ka⟩
          by_cases e : j = nt
          · subst e; simp [HBN.out.1, HR.out, t1']
          · have : (s.set nt z)[j]? = s[j]? := List.getElem?_set_ne (fun h => e h.symm)
            simp [e, List.getD_eq_getElem?_getD, this]
        have HST := Lib.hid (show afterN code r (n + 1) = some (s.set nt z) by rw [HNX.out s HS.out.1, HZ.out, ← HIN.out, Option.map_some]; dsimp only; rw [Int.toNat_natCast])
        go_upto_region 8 with (fail)
        refine wp_name fun w6 hW6 => ?_
        have HN6 := Lib.hid (hN.out w6 hW6)
        have y0 := HN6.out.2.2.2.2.2.1
        have y1 := HN6.out.2.2.2.2.2.2.1
        have z6 := cell_lt y0
        have hO8 := HN6.out.2.2.2.2.2.2.2
        have hTW := HS.out.2.2.2
        have hlM : n < M := HM.out.lt hlt HST.out hnM
        have hJ6 : J n w6 := HJ.out _ _ _ hJn.out (hO8.to_below (fun q hq _ e => by omega) (by omega)) (out_others hO8 fun q hq _ => by subst hq; exact typ_cells hTW)
        have hX6 : ∀ q, X0 q → typOf w6 q = some 3 := fun q hq => typ_outK (hXt.out q hq) hO8 (fun e => by have := HX0.out.1 q hq; omega)
        have HTO := Lib.hid (toldN_eq HS.out.1 HZ.out)
        have HA6 : AN code r n #[.int .i64 (n : Int), .agg #[.bool n5, .slice a5 l5.length c5]] w6 := ⟨_, rfl, by rw [HTO.out]; exact HN6.out.2.2.2.1⟩
        obtain ⟨fn, tmps, asg, body, hy, hRd⟩ := HYY.out n _ w6 hlM hJ6 HA6
        have HX6 := Lib.hid hX6
        clear hW6 hN o0 o1 of0 of1 i1 HI5 HV5 q0 q1 q2 q3 q4 f0 f1 f2 f3 f4 p2 hO8 hTW hJ6 hX6 HTO HA6
        refine (wpIn_wide (n := 4)).1 ?_
        gi_wp2
        refine hRd.mono ?_
        rintro e W3 (⟨rfl, hJ3, ho3, ht3⟩ | ⟨rfl, hx3⟩)
        · have hk : Kp (· ≠ 3) w6 W3 := Kp.out ho3 (fun q t hq ht hne => by rw [HX6.out q hq] at ht; exact hne (Option.some.inj ht).symm)
          have hnr : ¬ X0 rb := fun h => by have := HX0.out.1 rb h; omega
          have HNEXT := Lib.hid (show ∃ s', afterN code r (n + 1) = some s' ∧ IntsF IsInt W3 rb 0 R (fun j => s'.getD j 0) ∧ Free W3 rb ∧ typOf W3 rb = some 48 from ⟨_, HST.out, HN6.out.1.stay lims_int (hk rb _ HN6.out.2.2.1 (by decide)) (hk.lim (by decide)), HN6.out.2.1.out ho3 hnr, hk.typ HN6.out.2.2.1 (by decide)⟩)
          have hO7 : Out (fun k => k = rb ∨ X0 k) w0 W3 := HN6.out.2.2.2.2.1.trans (ho3.mono fun _ _ h => .inr h)
          have HX7 := Lib.hid (show ∀ q, X0 q → typOf W3 q = some 3 from fun q hq => (ht3 q hq (typ_lt (HX6.out q hq))).trans (HX6.out q hq))
          have HJ7 := Lib.hid hJ3
          clear HN6 y0 y1 hk hy hRd hJ3 ho3 ht3
          gi_wp2
          go_wp2
          exact ⟨⟨n + 1, by omega, by go_num, hO7, HNEXT, by omega, HJ7, HX7⟩, by simp [intOf]; omega⟩
        · have HX7 := Lib.hid hx3
          clear HN6 y0 y1 hy hRd hx3
          gi_wp2
          go_wp2
          go_ret
          exact ⟨⟨_, rfl⟩, .inr ⟨n + 1, by omega, HX7.out⟩⟩
    · obtain rfl : n = code.length := by omega
      go_wp2
      go_ret
      obtain rfl : M = code.length := Nat.le_antisymm HM.out.le hnM
      exact ⟨⟨_, rfl⟩, .inl hJn.out⟩
end Go.Proofs.YtannhpadoooedaaGreatDoor

/- exact: Trace: what its iterator tells. -/
namespace Go.Proofs.YtannhpadoooedaaGreatDoor
open Num
open Go.ChangeShapes Go.WideShapes Go.ChangeAt Go.RowKit
set_option linter.unusedVariables false
set_option linter.unusedSimpArgs false
attribute [local go_sem ↓] Go.wp_at_zero Go.wp_at_succ
/-- what the iterator finds -/
structure TraceIn (n0 : Nat) (X0 : Nat → Prop) (pb xb : Nat) (ins regs : Int) (ca oa : Option Addr) (cc oc : Nat) (code : List Ins) (outs : List Int) (v : Value) (l : List Int) (W : World) : Prop where
  p0 : W.cell? ⟨pb, 0, none⟩ = some (.int .i64 ins)
  p1 : W.cell? ⟨pb, 1, none⟩ = some (.int .i64 regs)
  p2 : W.cell? ⟨pb, 2, none⟩ = some (.slice ca code.length cc)
  p3 : W.cell? ⟨pb, 3, none⟩ = some (.slice oa outs.length oc)
  x0 : W.cell? ⟨xb, 0, none⟩ = some v
  hc : InsV W ca cc code
  ho : IntsV W oa oc outs
  hv : PRow 0 W v l
  lt : ∀ q, X0 q → q < n0
  le : n0 ≤ W.heap.size
  ty : ∀ q, X0 q → typOf W q = some 3
  nc : ∀ b off, ca = some ⟨b, off, none⟩ → 0 < code.length → ¬ X0 b
section
variable {n0 : Nat} {X0 : Nat → Prop} {pb xb : Nat} {ins regs : Int} {ca oa : Option Addr} {cc oc : Nat} {code : List Ins} {outs : List Int} {v : Value} {l : List Int} {W W' : World}
theorem TraceIn.keep (h : TraceIn n0 X0 pb xb ins regs ca oa cc oc code outs v l W) (k : Below W.heap.size W W') : TraceIn n0 X0 pb xb ins regs ca oa cc oc code outs v l W' :=
  ⟨bkeep k h.p0, bkeep k h.p1, bkeep k h.p2, bkeep k h.p3, bkeep k h.x0, h.hc.keep k, h.ho.keep k, h.hv.keep lims_int k, h.lt, Nat.le_trans h.le k.size, fun q hq => typ_keep (h.ty q hq) k, h.nc⟩
theorem others_of_below (h : Below W.heap.size W W') : KeepsOthers W W' := out_others (Out.of_below (fun _ => False) h) fun _ h => h.elim
set_option maxRecDepth 100000 in
set_option maxHeartbeats 8000000 in
/-- it tells nothing, where the program may not be, or is handed what it must not -/
theorem trace_no (hno : ¬ ProgOk ins regs code outs ∨ (l.length : Int) ≠ ins) : IterV Tryz.prog 60 #[.pointer (some ⟨pb, 0, none⟩), .pointer (some ⟨xb, 0, none⟩)] (fun _ _ _ => False) 0 (fun _ => X0) (Below n0) (TraceIn n0 X0 pb xb ins regs ca oa cc oc code outs v l) := by
  intro y J Jx W hG hJ hJx hY h0
  refine callsIn_wide.2 ?_
  show Calls Tryz.prog 60 #[.func (.yield y) #[] #[], .pointer (some ⟨pb, 0, none⟩), .pointer (some ⟨xb, 0, none⟩)] W _
  have kr := fun V (h : Below W.heap.size W V) => right_c ins regs ca oa cc oc code outs l.length V (hG.hc.keep h) (hG.ho.keep h)
  have HJ := Lib.hid (fun V (h : Below W.heap.size W V) => hJ 0 W V h0 (h.mono hG.le) (others_of_below h))
  have HNO := Lib.hid hno
  have p0 := hG.p0
  have p1 := hG.p1
  have p2 := hG.p2
  have p3 := hG.p3
  have x0 := hG.x0
  obtain ⟨va, vc, rfl, -⟩ := hG.hv
  have zp0 := cell_lt p0
  have zx0 := cell_lt x0
  clear hG hJ hJx hY h0 hno
  have hB := Below.refl W.heap.size W
  go_enter Tryz.func60, Tryz.ntmps60
  go_wp2_with fail
  refine (kr _ (by repeat (first | exact Below.refl _ _ | exact hB | refine Below.drew ?_ | refine below_drewN ?_ _ | refine bset ?_ (by simp <;> omega) _ | refine bal ?_ _))).mono ?_
  rintro e w1 ⟨hp, hb1⟩
  have HJ1 := Lib.hid (HJ.out w1 (bthen (by repeat (first | exact Below.refl _ _ | exact hB | refine Below.drew ?_ | refine below_drewN ?_ _ | refine bset ?_ (by simp <;> omega) _ | refine bal ?_ _)) hb1))
  clear kr
  rcases hp with ⟨h1, rfl⟩ | ⟨h1, h2, rfl⟩ | ⟨h1, h2, rfl⟩
  · clear h1
    go_wp2
    refine bodyPost_ret (results_none rfl _ _ _) rfl ?_
    exact ⟨⟨_, rfl⟩, .inl HJ1.out⟩
  · clear h1 h2
    go_wp2
    refine bodyPost_ret (results_none rfl _ _ _) rfl ?_
    exact ⟨⟨_, rfl⟩, .inl HJ1.out⟩
  · rcases HNO.out with h | h
    · exact absurd h1 h
    · exact absurd h2 h
set_option maxRecDepth 100000 in
set_option maxHeartbeats 8000000 in
/-- it tells what the instructions set, up to the one that fails -/
theorem trace_yes {M K : Nat} (hok : ProgOk ins regs code outs) (hle : (l.length : Int) = ins) (hM : ToldM code (startN l regs.toNat) M) (hb : ∀ j, Bd K (l.getD j 0)) (hK : K ≤ 2147483648) :
    IterV Tryz.prog 60 #[.pointer (some ⟨pb, 0, none⟩), .pointer (some ⟨xb, 0, none⟩)] (AN code (startN l regs.toNat)) M (fun _ => X0) (Below n0) (TraceIn n0 X0 pb xb ins regs ca oa cc oc code outs v l) := by
  intro y J Jx W hG hJ hJx hY h0
  refine callsIn_wide.2 ?_
  show Calls Tryz.prog 60 #[.func (.yield y) #[] #[], .pointer (some ⟨pb, 0, none⟩), .pointer (some ⟨xb, 0, none⟩)] W _
  have kr := fun V (h : Below W.heap.size W V) => right_c ins regs ca oa cc oc code outs l.length V (hG.hc.keep h) (hG.ho.keep h)
  have HJ := Lib.hid (fun V (h : Below W.heap.size W V) => hJ 0 W V h0 (h.mono hG.le) (others_of_below h))
  have HJJ := Lib.hid hJ
  have HY := Lib.hid (show YieldsV y M X0 (AN code (startN l regs.toNat)) J Jx from fun k args X hk hj ha => yieldAt_wide (hY k args X hk hj ha))
  have HG := Lib.hid hG
  have HOK := Lib.hid hok
  have HM := Lib.hid hM
  have HBD := Lib.hid hb
  obtain ⟨R, hR⟩ : ∃ R : Nat, regs = R := ⟨regs.toNat, by have := hok.i1; have := hok.i2; omega⟩
  have hlR : l.length ≤ R := by have := hok.i2; omega
  have hR128 : R ≤ 128 := by have := hok.r1; omega
  have p0 := hG.p0
  have p1 := hG.p1
  have p2 := hG.p2
  have p3 := hG.p3
  have x0 := hG.x0
  have hn0 := hG.le
  obtain ⟨va, vc, rfl, -⟩ := hG.hv
  have zp0 := cell_lt p0
  have zx0 := cell_lt x0
  have HLE := Lib.hid hle
  clear hG hJ hJx hY h0 hok hle hM hb
  subst hR
  rw [Int.toNat_natCast] at HY HM
  have hB := Below.refl W.heap.size W
  go_enter Tryz.func60, Tryz.ntmps60
  go_wp2_with fail
  refine (kr _ (by repeat (first | exact Below.refl _ _ | exact hB | refine Below.drew ?_ | refine below_drewN ?_ _ | refine bset ?_ (by simp <;> omega) _ | refine bal ?_ _))).mono ?_
  rintro e w1 ⟨hp, hb1⟩
  have hB1 : Below W.heap.size W w1 := bthen (by repeat (first | exact Below.refl _ _ | exact hB | refine Below.drew ?_ | refine below_drewN ?_ _ | refine bset ?_ (by simp <;> omega) _ | refine bal ?_ _)) hb1
  clear kr
  rcases hp with ⟨h1, rfl⟩ | ⟨h1, h2, rfl⟩ | ⟨h1, h2, rfl⟩
  · exact absurd HOK.out h1
  · exact absurd HLE.out h2
  · clear h1 h2
    replace p0 := bkeep hB1 p0
    replace p1 := bkeep hB1 p1
    replace p2 := bkeep hB1 p2
    replace p3 := bkeep hB1 p3
    replace x0 := bkeep hB1 x0
    have zp1 := cell_lt p0
    have zx1 := cell_lt x0
    have hmk := mkInts R (by omega)
    go_wp2_with (refine copy_ints (o := ⟨some 15, _, _, _, _, _⟩) (g := w1.heap.size) (R := R) (ad := va) (l := l) (c := vc) (base := 0) rfl rfl rfl rfl (HG.out.hv.keep lims_int (bal hB1 _)) hlR (MapKept.heap_alloc w1 _).1 ?_)
    intro nn w2 hI2 hF2 hT2 hO2
    have hO1 : Out (fun k => k = w1.heap.size) w1 w2 := ((Out.refl _ w1).alloc _).trans hO2
    have hB2 : Below W.heap.size W w2 := hB1.trans (hO1.to_below (fun q hq _ e => by have := hB1.size; omega) hB1.size)
    have HP := Lib.hid (show ∀ V, Below w2.heap.size w2 V → V.cell? ⟨pb, 0, none⟩ = some (.int .i64 ins) ∧ V.cell? ⟨pb, 1, none⟩ = some (.int .i64 (R : Int)) ∧ V.cell? ⟨pb, 2, none⟩ = some (.slice ca code.length cc) ∧ V.cell? ⟨pb, 3, none⟩ = some (.slice oa outs.length oc) from fun V h => by
      have hG := HG.out.keep (bthen hB2 h)
      exact ⟨hG.p0, hG.p1, hG.p2, hG.p3⟩)
    have HI2 := Lib.hid (And.intro hI2 (And.intro hF2 hT2))
    have HSL := Lib.hid (startN_len hlR)
    have hsz : W.heap.size ≤ w1.heap.size := hB1.size
    have rx := fun V (k : Below w2.heap.size w2 V) => runY_c y n0 M X0 J Jx HJJ.out HG.out.lt ins (R : Int) ca oa cc outs.length oc code (startN l R) K w1.heap.size V (HG.out.hc.keep (bthen hB2 k)) (fun n hn => by rw [HSL.out]; exact ins_of HOK.out hn) HOK.out.c1 (cs_of HOK.out) (by rw [HSL.out]; exact hR128) (by rw [HSL.out]; exact HI2.out.1.keep lims_int k) (HI2.out.2.1.keep k) (typ_keep HI2.out.2.2 k) (fun j => by
      by_cases e : j < l.length
      · rw [startN_lt e]; exact HBD.out j
      · rw [startN_ge (by omega)]; exact bd_zero) hK (fun b off e hl => ⟨fun e2 => by
      rcases HG.out.hc with h0 | ⟨b', off', h1, _, h3⟩
      · rw [h0] at hl; simp at hl
      · rw [e] at h1; cases h1
        have := cell_lt (h3 0 hl).c0
        omega, HG.out.nc b off e hl⟩) HM.out HY.out (by omega) (fun q hq => (HG.out.keep (bthen hB2 k)).ty q hq) (HJ.out V (bthen hB2 k))
    rw [HSL.out] at rx
    have RX := Lib.hid rx
    clear hI2 hF2 hT2 hO2 hmk p0 p1 p2 p3 x0 rx
    obtain ⟨p0, p1, p2, p3⟩ := HP.out w2 (Below.refl _ _)
    have zp2 := cell_lt p0
    have hBc := Below.refl w2.heap.size w2
    go_wp2
    go_region_law (go_simp; go_wp2_with (first
      | (go_at_call 58; refine (numbers_c _).mono ?_; rintro e w3 ⟨rfl, hb3⟩; (have hBd : Below w2.heap.size w2 w3 := bthen (by repeat (first | exact Below.refl _ _ | exact hBc | refine Below.drew ?_ | refine below_drewN ?_ _ | refine bset ?_ (by simp <;> omega) _ | refine bal ?_ _)) hb3; clear hBc; have hBc := hBd; clear hBd); obtain ⟨p0, p1, p2, p3⟩ := HP.out w3 hBc; have zp3 := cell_lt p0)
      | (go_at_call 57; refine (RX.out _ ?_).mono ?_; (repeat (first | exact Below.refl _ _ | exact hBc | refine Below.drew ?_ | refine below_drewN ?_ _ | refine bset ?_ (by simp <;> omega) _ | refine bal ?_ _)); rintro e w4 ⟨⟨q, rfl⟩, hres⟩; have HRES := Lib.hid hres; clear hres)
      | fail))
    all_goals
      go_wp2
      refine bodyPost_end (results_none rfl _ _ _) rfl ?_
      exact ⟨⟨_, rfl⟩, HRES.out⟩
end
end Go.Proofs.YtannhpadoooedaaGreatDoor

/- The reference's numbers: DivMod. -/
namespace Go.Proofs.YtannhpadoooedaaGreatDoor
open Num
open Go.ChangeShapes Go.WideShapes Go.ChangeAt Go.RowKit
set_option linter.unusedVariables false
set_option linter.unusedSimpArgs false
theorem Free.al {w : World} {g : Nat} (h : Free w g) (o : Obj) : Free (w.alloc o) g := h.keep (bal (Below.refl _ _) _)
theorem Free.dr {w : World} {g : Nat} (h : Free w g) : Free w.drew g := h
set_option maxRecDepth 100000 in
set_option maxHeartbeats 2000000 in
theorem rdivmodV_c (n1 n2 : Bool) (a1 a2 : Option Addr) (c1 c2 : Nat) (l1 l2 : List Nat) (w : World) (u1 : U32 w a1 c1 l1) (u2 : U32 w a2 c2 l2) (q1 : NumR.Limbs l1) (q2 : NumR.Limbs l2) (g1 : Nrm l1) (g2 : Nrm l2) (hz : 0 < NumR.val l2) (k1 : l1.length ≤ 1073741826) (k2 : l2.length ≤ 1073741826) (s1 : n1 = true → l1 ≠ []) (s2 : n2 = true → l2 ≠ []) :
    Calls Tryz.prog 181 #[.agg #[.bool n1, .slice a1 l1.length c1], .agg #[.bool n2, .slice a2 l2.length c2]] w fun e w' => (∃ u v, e = .returned (.tuple #[u, v]) ∧ IsRef w' u (sg n1 (NumR.val l1) / sg n2 (NumR.val l2)) ∧ IsRef w' v (sg n1 (NumR.val l1) % sg n2 (NumR.val l2))) ∧ Below w.heap.size w w' := by
  have dc := fun w h1 h2 => rdivide_c a1 a2 c1 c2 l1 l2 w h1 h2 q1 q2 g1 g2 hz k1 k2
  have hB0 := Below.refl w.heap.size w
  have HK := Lib.hid (And.intro k1 k2)
  have HZ := Lib.hid hz
  have HS := Lib.hid (And.intro s1 s2)
  clear k1 k2 hz s1 s2
  go_enter Tryz.func181, Tryz.ntmps181
  go_wp2_with fail
  refine (dc _ (u1.keep (by repeat (first | exact Below.refl _ _ | exact hB0 | refine Below.drew ?_ | refine below_drewN ?_ _ | refine bset ?_ (by simp <;> omega) _ | refine bal ?_ _))) (u2.keep (by repeat (first | exact Below.refl _ _ | exact hB0 | refine Below.drew ?_ | refine below_drewN ?_ _ | refine bset ?_ (by simp <;> omega) _ | refine bal ?_ _)))).mono ?_
  rintro e w1 ⟨⟨u, v, rfl, hu, hv⟩, hb1⟩
  have x0 : w1.cell? ⟨w.heap.size, 0, none⟩ = some (.bool n1) := bkeep hb1 (by first | assumption | exact cell_new (by with_reducible first | rfl | (simp; done) | (simp; omega)) rfl | (repeat (first | assumption | exact cell_new (by with_reducible first | rfl | (simp; done) | (simp; omega)) rfl | refine cell_alloc ?_ _ | refine cell_drew ?_ | refine cell_drewN ?_ _ | refine cell_far ?_ (by simp) _ | (refine cell_far ?_ (by simp <;> omega) _))) | simp [go_sem, *])
  have zx0 := cell_lt x0
  have x1 : w1.cell? ⟨w.heap.size, 1, none⟩ = some (.slice a1 l1.length c1) := bkeep hb1 (by first | assumption | exact cell_new (by with_reducible first | rfl | (simp; done) | (simp; omega)) rfl | (repeat (first | assumption | exact cell_new (by with_reducible first | rfl | (simp; done) | (simp; omega)) rfl | refine cell_alloc ?_ _ | refine cell_drew ?_ | refine cell_drewN ?_ _ | refine cell_far ?_ (by simp) _ | (refine cell_far ?_ (by simp <;> omega) _))) | simp [go_sem, *])
  have y0 : w1.cell? ⟨w.heap.size + 1, 0, none⟩ = some (.bool n2) := bkeep hb1 (by first | assumption | exact cell_new (by with_reducible first | rfl | (simp; done) | (simp; omega)) rfl | (repeat (first | assumption | exact cell_new (by with_reducible first | rfl | (simp; done) | (simp; omega)) rfl | refine cell_alloc ?_ _ | refine cell_drew ?_ | refine cell_drewN ?_ _ | refine cell_far ?_ (by simp) _ | (refine cell_far ?_ (by simp <;> omega) _))) | simp [go_sem, *])
  have zy0 := cell_lt y0
  have y1 : w1.cell? ⟨w.heap.size + 1, 1, none⟩ = some (.slice a2 l2.length c2) := bkeep hb1 (by first | assumption | exact cell_new (by with_reducible first | rfl | (simp; done) | (simp; omega)) rfl | (repeat (first | assumption | exact cell_new (by with_reducible first | rfl | (simp; done) | (simp; omega)) rfl | refine cell_alloc ?_ _ | refine cell_drew ?_ | refine cell_drewN ?_ _ | refine cell_far ?_ (by simp) _ | (refine cell_far ?_ (by simp <;> omega) _))) | simp [go_sem, *])
  have r0 : w1.cell? ⟨w.heap.size + 2, 0, none⟩ = some (.bool false) := bkeep hb1 (by first | assumption | exact cell_new (by with_reducible first | rfl | (simp; done) | (simp; omega)) rfl | (repeat (first | assumption | exact cell_new (by with_reducible first | rfl | (simp; done) | (simp; omega)) rfl | refine cell_alloc ?_ _ | refine cell_drew ?_ | refine cell_drewN ?_ _ | refine cell_far ?_ (by simp) _ | (refine cell_far ?_ (by simp <;> omega) _))) | simp [go_sem, *])
  have zr0 := cell_lt r0
  have r0f : w1.frozen? ⟨w.heap.size + 2, 0, none⟩ = false := bkeepf (v := .bool false) hb1 (by first | assumption | exact cell_new (by with_reducible first | rfl | (simp; done) | (simp; omega)) rfl | (repeat (first | assumption | exact cell_new (by with_reducible first | rfl | (simp; done) | (simp; omega)) rfl | refine cell_alloc ?_ _ | refine cell_drew ?_ | refine cell_drewN ?_ _ | refine cell_far ?_ (by simp) _ | (refine cell_far ?_ (by simp <;> omega) _))) | simp [go_sem, *]) (by first | assumption | (simp <;> assumption) | simp [go_sem, *])
  have r1 : w1.cell? ⟨w.heap.size + 2, 1, none⟩ = some (.slice none 0 0) := bkeep hb1 (by first | assumption | exact cell_new (by with_reducible first | rfl | (simp; done) | (simp; omega)) rfl | (repeat (first | assumption | exact cell_new (by with_reducible first | rfl | (simp; done) | (simp; omega)) rfl | refine cell_alloc ?_ _ | refine cell_drew ?_ | refine cell_drewN ?_ _ | refine cell_far ?_ (by simp) _ | (refine cell_far ?_ (by simp <;> omega) _))) | simp [go_sem, *])
  have r1f : w1.frozen? ⟨w.heap.size + 2, 1, none⟩ = false := bkeepf (v := .slice none 0 0) hb1 (by first | assumption | exact cell_new (by with_reducible first | rfl | (simp; done) | (simp; omega)) rfl | (repeat (first | assumption | exact cell_new (by with_reducible first | rfl | (simp; done) | (simp; omega)) rfl | refine cell_alloc ?_ _ | refine cell_drew ?_ | refine cell_drewN ?_ _ | refine cell_far ?_ (by simp) _ | (refine cell_far ?_ (by simp <;> omega) _))) | simp [go_sem, *]) (by first | assumption | (simp <;> assumption) | simp [go_sem, *])
  have t0 : w1.cell? ⟨w.heap.size + 3, 0, none⟩ = some (.bool false) := bkeep hb1 (by first | assumption | exact cell_new (by with_reducible first | rfl | (simp; done) | (simp; omega)) rfl | (repeat (first | assumption | exact cell_new (by with_reducible first | rfl | (simp; done) | (simp; omega)) rfl | refine cell_alloc ?_ _ | refine cell_drew ?_ | refine cell_drewN ?_ _ | refine cell_far ?_ (by simp) _ | (refine cell_far ?_ (by simp <;> omega) _))) | simp [go_sem, *])
  have zt0 := cell_lt t0
  have t0f : w1.frozen? ⟨w.heap.size + 3, 0, none⟩ = false := bkeepf (v := .bool false) hb1 (by first | assumption | exact cell_new (by with_reducible first | rfl | (simp; done) | (simp; omega)) rfl | (repeat (first | assumption | exact cell_new (by with_reducible first | rfl | (simp; done) | (simp; omega)) rfl | refine cell_alloc ?_ _ | refine cell_drew ?_ | refine cell_drewN ?_ _ | refine cell_far ?_ (by simp) _ | (refine cell_far ?_ (by simp <;> omega) _))) | simp [go_sem, *]) (by first | assumption | (simp <;> assumption) | simp [go_sem, *])
  have t1 : w1.cell? ⟨w.heap.size + 3, 1, none⟩ = some (.slice none 0 0) := bkeep hb1 (by first | assumption | exact cell_new (by with_reducible first | rfl | (simp; done) | (simp; omega)) rfl | (repeat (first | assumption | exact cell_new (by with_reducible first | rfl | (simp; done) | (simp; omega)) rfl | refine cell_alloc ?_ _ | refine cell_drew ?_ | refine cell_drewN ?_ _ | refine cell_far ?_ (by simp) _ | (refine cell_far ?_ (by simp <;> omega) _))) | simp [go_sem, *])
  have t1f : w1.frozen? ⟨w.heap.size + 3, 1, none⟩ = false := bkeepf (v := .slice none 0 0) hb1 (by first | assumption | exact cell_new (by with_reducible first | rfl | (simp; done) | (simp; omega)) rfl | (repeat (first | assumption | exact cell_new (by with_reducible first | rfl | (simp; done) | (simp; omega)) rfl | refine cell_alloc ?_ _ | refine cell_drew ?_ | refine cell_drewN ?_ _ | refine cell_far ?_ (by simp) _ | (refine cell_far ?_ (by simp <;> omega) _))) | simp [go_sem, *]) (by first | assumption | (simp <;> assumption) | simp [go_sem, *])
  have hB : Below w.heap.size w w1 := bthen (by repeat (first | exact Below.refl _ _ | exact hB | refine Below.drew ?_ | refine below_drewN ?_ _ | refine bset ?_ (by simp <;> omega) _ | refine bal ?_ _)) hb1
  have hz : w.heap.size ≤ w1.heap.size := hB.size
  clear dc
  obtain ⟨aq, cq, Q, rfl, uq, qq, gq, vq⟩ := hu
  obtain ⟨ar, cr, R, rfl, ur, qr, gr, vr⟩ := hv
  have nc := fun W (h : Below w1.heap.size w1 W) => rnormW_c (!(n1 == n2)) aq cq Q W (uq.keep h)
  have nd := fun W (h : Below w1.heap.size w1 W) => rnormW_c n1 ar cr R W (ur.keep h)
  rw [trim_of_nrm gq] at nc
  rw [trim_of_nrm gr] at nd
  obtain ⟨b1, hb1'⟩ : ∃ b, b = ((!(n1 == n2)) && decide (0 < Q.length)) := ⟨_, rfl⟩
  obtain ⟨b2, hb2'⟩ : ∃ b, b = (n1 && decide (0 < R.length)) := ⟨_, rfl⟩
  rw [← hb1'] at nc
  rw [← hb2'] at nd
  have HQ := Lib.hid (And.intro uq (And.intro qq (And.intro gq (And.intro vq hb1'))))
  have HR := Lib.hid (And.intro ur (And.intro qr (And.intro gr (And.intro vr hb2'))))
  clear uq ur qq qr gq gr vq vr hb1' hb2'
  unfold iv at nc nd
  have hs0 := cell_lt x0
  have hs1 : w.heap.size < w1.heap.size + 1 := by omega
  have hs2 : w.heap.size < w1.heap.size + 1 + 1 := by omega
  have hs3 : w.heap.size < w1.heap.size + 1 + 1 + 1 := by omega
  have hv0 := cell_lt y0
  have hv1 : w.heap.size + 1 < w1.heap.size + 1 := by omega
  have hv2 : w.heap.size + 1 < w1.heap.size + 1 + 1 := by omega
  have hv3 : w.heap.size + 1 < w1.heap.size + 1 + 1 + 1 := by omega
  go_upto_region 2 with (fail)
  have hBw := Below.refl w1.heap.size w1
  have HSS := Lib.hid (fun W (h : Below w1.heap.size w1 W) => And.intro (bkeep h x0) (bkeep h y0))
  go_cut [8, 9] (fun p q wx => ∃ g h : Nat, p = .pointer (some ⟨g, 0, none⟩) ∧ q = .pointer (some ⟨h, 0, none⟩) ∧ g ≠ h ∧ w1.heap.size ≤ g ∧ w1.heap.size ≤ h ∧ wx.cell? ⟨g, 0, none⟩ = some (.bool b1) ∧ wx.cell? ⟨g, 1, none⟩ = some (.slice aq Q.length cq) ∧ wx.cell? ⟨h, 0, none⟩ = some (.bool b2) ∧ wx.cell? ⟨h, 1, none⟩ = some (.slice ar R.length cr) ∧ Free wx g ∧ Free wx h ∧ Below w1.heap.size w1 wx)
  case first =>
    go_region_held3 (fun w' => w'.cell? ⟨w.heap.size, 0, none⟩ = some (.bool n1) ∧ w'.cell? ⟨w.heap.size + 1, 0, none⟩ = some (.bool n2))
      (first | (refine HSS.out _ ?_; (repeat (first | exact Below.refl _ _ | exact hBw | refine Below.drew ?_ | refine below_drewN ?_ _ | refine bset ?_ (by simp <;> omega) _ | refine bal ?_ _)); done) | fail)
      (first | (go_at_call 99; (first | (with_reducible refine (nc _ ?_).mono ?_) | (with_reducible refine (nd _ ?_).mono ?_)); (repeat (first | exact Below.refl _ _ | exact hBw | refine Below.drew ?_ | refine below_drewN ?_ _ | refine bset ?_ (by simp <;> omega) _ | refine bal ?_ _)); rintro e w5 ⟨rfl, rfl⟩) | fail)
    all_goals
      go_wp2_with fail
      go_meet
      refine ⟨_, _, rfl, rfl, by omega, by omega, by omega, ?_, ?_, ?_, ?_, ?_, ?_, ?_⟩
      · repeat (first | (refine cell_new ?_ rfl; first | (with_reducible rfl) | (simp only [World.size_alloc]; done)) | (with_reducible refine cell_drew ?_) | (with_reducible refine cell_alloc ?_ _))
      · repeat (first | (refine cell_new ?_ rfl; first | (with_reducible rfl) | (simp only [World.size_alloc]; done)) | (with_reducible refine cell_drew ?_) | (with_reducible refine cell_alloc ?_ _))
      · repeat (first | (refine cell_new ?_ rfl; first | (with_reducible rfl) | (simp only [World.size_alloc]; done)) | (with_reducible refine cell_drew ?_) | (with_reducible refine cell_alloc ?_ _))
      · repeat (first | (refine cell_new ?_ rfl; first | (with_reducible rfl) | (simp only [World.size_alloc]; done)) | (with_reducible refine cell_drew ?_) | (with_reducible refine cell_alloc ?_ _))
      · repeat (first | (refine Free.new ?_; first | (with_reducible rfl) | (simp only [World.size_alloc]; done)) | (with_reducible refine Free.dr ?_) | (with_reducible refine Free.al ?_ _))
      · repeat (first | (refine Free.new ?_; first | (with_reducible rfl) | (simp only [World.size_alloc]; done)) | (with_reducible refine Free.dr ?_) | (with_reducible refine Free.al ?_ _))
      · exact Below.drew (bal (bal (bal (bal (Below.refl _ _) _) _) _) _)
  case rest =>
    obtain ⟨g, h, rfl, rfl, hgh, hg, hh, m0, m1, d0, d1, fg, fh, hBx⟩ := hcut
    have hBy := bthen hB hBx
    have k0 := bkeep hBx y0
    have k1 := bkeep hBx y1
    have e0 := bkeep hBx r0
    have e1 := bkeep hBx r1
    have e0f := bkeepf hBx r0 r0f
    have e1f := bkeepf hBx r1 r1f
    have o0 := bkeep hBx t0
    have o1 := bkeep hBx t1
    have o0f := bkeepf hBx t0 t0f
    have o1f := bkeepf hBx t1 t1f
    have fg0 := fg.2 0
    have fg1 := fg.2 1
    have fh0 := fh.2 0
    have fh1 := fh.2 1
    have hlt := cell_lt t0
    have hg3 : w.heap.size + 3 < g := by omega
    have hh3 : w.heap.size + 3 < h := by omega
    have HUQ := Lib.hid (HQ.out.1.keep hBx)
    have HUR := Lib.hid (HR.out.1.keep hBx)
    have HYR := Lib.hid (show IsRef wc (.agg #[.bool n2, .slice a2 l2.length c2]) (sg n2 (NumR.val l2)) from ⟨n2, a2, c2, l2, rfl, u2.keep hBy, q2, g2, HS.out.2, rfl⟩)
    clear nc nd hs0 hs1 hs2 hs3 hv0 hv1 hv2 hv3 x0 x1 y0 y1 r0 r1 r0f r1f t0 t1 t0f t1f hb1 hB HSS u1 u2 hBw
    cases b2 with
    | false =>
      have PL := Lib.hid (show sg n1 (NumR.val l1) / sg n2 (NumR.val l2) = sg (!(n1 == n2)) (NumR.val Q) ∧ sg n1 (NumR.val l1) % sg n2 (NumR.val l2) = sg false (NumR.val R) by
        rw [HQ.out.2.2.2.1, HR.out.2.2.2.1]
        refine dm_low HZ.out ?_
        have h := HR.out.2.2.2.2
        cases n1 with
        | false => exact .inl rfl
        | true =>
          right
          have h2 : R = [] := by cases hR : R with | nil => rfl | cons x t => rw [hR] at h; simp at h
          rw [← HR.out.2.2.2.1, h2]; rfl)
      go_upto_region 6 with (fail)
      go_region
      go_wp2
      have hbe : Below w.heap.size w ((((wc.setCell ⟨w.heap.size + 1 + 1, 0, none⟩ (.bool b1)).setCell ⟨w.heap.size + 1 + 1, 1, none⟩ (.slice aq Q.length cq)).setCell ⟨w.heap.size + 1 + 1 + 1, 0, none⟩ (.bool false)).setCell ⟨w.heap.size + 1 + 1 + 1, 1, none⟩ (.slice ar R.length cr)).drew := Below.drew (bset (bset (bset (bset hBy (by simp <;> omega) _) (by simp <;> omega) _) (by simp <;> omega) _) (by simp <;> omega) _)
      have e0 : wc.cell? ⟨w.heap.size + 1 + 1, 0, none⟩ = some (.bool false) := e0
      have e1 : wc.cell? ⟨w.heap.size + 1 + 1, 1, none⟩ = some (.slice none 0 0) := e1
      have o0 : wc.cell? ⟨w.heap.size + 1 + 1 + 1, 0, none⟩ = some (.bool false) := o0
      have o1 : wc.cell? ⟨w.heap.size + 1 + 1 + 1, 1, none⟩ = some (.slice none 0 0) := o1
      refine bodyPost_ret (v := .tuple #[.agg #[.bool b1, .slice aq Q.length cq], .agg #[.bool false, .slice ar R.length cr]]) (by simp [results, Tryz.results181, go_sem, *]) rfl ⟨⟨_, _, rfl, ?_, ?_⟩, hbe⟩
      · rw [PL.out.1]
        exact (((ref_of HUQ.out HQ.out.2.1 HQ.out.2.2.1 HQ.out.2.2.2.2).put2 e0 e1 _ _).put2 (cell_far (cell_far o0 (by simp) _) (by simp) _) (cell_far (cell_far o1 (by simp) _) (by simp) _) _ _).keep (Below.drew (Below.refl _ _))
      · rw [PL.out.2]
        exact (((ref_of (s := false) HUR.out HR.out.2.1 HR.out.2.2.1 rfl).put2 e0 e1 _ _).put2 (cell_far (cell_far o0 (by simp) _) (by simp) _) (cell_far (cell_far o1 (by simp) _) (by simp) _) _ _).keep (Below.drew (Below.refl _ _))
    | true =>
      have hn1 : n1 = true ∧ 0 < R.length := by have h := HR.out.2.2.2.2; simpa using h.symm
      obtain ⟨rfl, hRl⟩ := hn1
      have HM := Lib.hid (show IsRef wc (.agg #[.bool true, .slice ar R.length cr]) (sg true (NumR.val R)) from ref_of HUR.out HR.out.2.1 HR.out.2.2.1 HR.out.2.2.2.2)
      have HN := Lib.hid (show IsRef wc (.agg #[.bool b1, .slice aq Q.length cq]) (sg (!(true == n2)) (NumR.val Q)) from ref_of HUQ.out HQ.out.2.1 HQ.out.2.2.1 HQ.out.2.2.2.2)
      have hRv : 0 < NumR.val R := Nat.lt_of_lt_of_le (Nat.pow_pos NumR.BB_pos) (NumR.nrm_val_pos HR.out.2.2.1 (List.length_pos_iff.1 hRl))
      have hRl2 : NumR.val R ≤ NumR.val l2 := by rw [HR.out.2.2.2.1]; exact Nat.le_of_lt (Nat.mod_lt _ HZ.out)
      have hQl1 : NumR.val Q ≤ NumR.val l1 := by rw [HQ.out.2.2.2.1]; exact Nat.div_le_self _ _
      have hl1 : 1 ≤ NumR.val l1 := by
        have h : NumR.val R ≤ NumR.val l1 := by rw [HR.out.2.2.2.1]; exact Nat.mod_le _ _
        omega
      have PL := Lib.hid (show sg true (NumR.val l1) / sg n2 (NumR.val l2) = sg (!(true == n2)) (NumR.val Q) - sgV n2 l2.length ∧ sg true (NumR.val l1) % sg n2 (NumR.val l2) = sg true (NumR.val R) + ((sg n2 (NumR.val l2)).natAbs : Int) by
        have h : sgV n2 l2.length = (sg n2 (NumR.val l2)).sign := by rw [rsg_sign g2 HS.out.2]; rfl
        rw [h, HQ.out.2.2.2.1, HR.out.2.2.2.1]
        exact dm_high HZ.out (by rw [← HR.out.2.2.2.1]; exact hRv))
      have hsv : -1 ≤ sgV n2 l2.length ∧ sgV n2 l2.length ≤ 1 := by unfold sgV; split <;> (try split) <;> omega
      have ax := fun W (k : Below wc.heap.size wc W) => rabs_c _ _ W (HYR.out.keep k)
      have ad := fun vy W (k : Below wc.heap.size wc W) (hy : IsRef W vy ((sg n2 (NumR.val l2)).natAbs : Int)) => radd_n _ vy _ _ l2 W (HM.out.keep k) hy q2 (by rw [sg_abs]; exact hRl2) (by rw [Int.natAbs_natCast, sg_abs]; exact Nat.le_refl _) (by have := HK.out; omega)
      have sx := fun W => rsignV_c n2 a2 l2.length c2 W
      have ox := fun W => rof_c (sgV n2 l2.length) W (by omega) (by omega)
      have sd := fun vx vy W (hx : IsRef W vx (sg (!(true == n2)) (NumR.val Q))) (hy : IsRef W vy (sgV n2 l2.length)) => rsub_n vx vy _ _ l1 W hx hy q1 (by rw [sg_abs]; exact hQl1) (by omega) (by have := HK.out; omega)
      clear hRv hRl hRl2 hQl1 hl1
      obtain ⟨sv, hsvE⟩ : ∃ sv, sv = sgV n2 l2.length := ⟨_, rfl⟩
      rw [← hsvE] at PL hsv sx ox sd
      have HSV := Lib.hid hsvE
      clear hsvE
      go_upto_region 4 with (fail)
      go_cut [] (fun wx => ∃ n4 a4 c4, ∃ L4 : List Nat, wx.cell? ⟨h, 0, none⟩ = some (.bool n4) ∧ wx.cell? ⟨h, 1, none⟩ = some (.slice a4 L4.length c4) ∧ IsRef wx (.agg #[.bool n4, .slice a4 L4.length c4]) (sg true (NumR.val R) + ((sg n2 (NumR.val l2)).natAbs : Int)) ∧ Out (fun k => k = h) wc wx ∧ Lim wc wx)
      case first =>
        have hBw := Below.refl wc.heap.size wc
        go_region_law (go_simp; go_wp2_with (first
          | (go_at_call 144; refine (ax _ ?_).mono ?_; (repeat (first | exact Below.refl _ _ | exact hBw | refine Below.drew ?_ | refine below_drewN ?_ _ | refine bset ?_ (by simp <;> omega) _ | refine bal ?_ _)); rintro e w5 ⟨⟨v5, rfl, hi5⟩, hb5⟩; have hB5 : Below wc.heap.size wc w5 := bthen (by repeat (first | exact Below.refl _ _ | exact hBw | refine Below.drew ?_ | refine below_drewN ?_ _ | refine bset ?_ (by simp <;> omega) _ | refine bal ?_ _)) hb5; have HI5 := Lib.hid hi5; have d05 := bkeep hB5 d0; have d15 := bkeep hB5 d1; obtain ⟨n5, a5, c5, l5, rfl, -⟩ := hi5; unfold iv at *)
          | (go_at_call 147; refine (ad _ _ ?_ ?_).mono ?_; (repeat (first | exact Below.refl _ _ | exact hB5 | refine Below.drew ?_ | refine below_drewN ?_ _ | refine bset ?_ (by simp <;> omega) _ | refine bal ?_ _)); (refine HI5.out.keep ?_; have hBz := Below.refl w5.heap.size w5; (repeat (first | exact Below.refl _ _ | exact hBz | refine Below.drew ?_ | refine below_drewN ?_ _ | refine bset ?_ (by simp <;> omega) _ | refine bal ?_ _))); rintro e w6 ⟨⟨v6, rfl, hi6⟩, hb6⟩; have hB6 : Below wc.heap.size wc w6 := bthen (by repeat (first | exact Below.refl _ _ | exact hB5 | refine Below.drew ?_ | refine below_drewN ?_ _ | refine bset ?_ (by simp <;> omega) _ | refine bal ?_ _)) hb6; have HI6 := Lib.hid hi6; have d06 := bkeep hB6 d0; have d16 := bkeep hB6 d1; have d06f := bkeepf hB6 d0 fh0; have d16f := bkeepf hB6 d1 fh1; obtain ⟨n6, a6, c6, l6, rfl, -⟩ := hi6; unfold iv at *)))
        all_goals
          go_wp2_with fail
          go_meet
          refine ⟨n6, a6, c6, l6, cell_far (cell_here d06 _) (by simp) _, cell_here (cell_far d16 (by simp) _) _, HI6.out.put2 d06 d16 _ _, (Out.of_below (fun k => k = h) hB6).set2 (fun _ => rfl) _ _, (Lim.of_below hB6).trans (Lim.set2 d06 d16 _ _)⟩
      case rest =>
        obtain ⟨n4, a4, c4, L4, d0, d1, hi4, hO4, hL4⟩ := hcut
        rename World => wd
        have HI4 := Lib.hid hi4
        have HN4 := Lib.hid (HN.out.lim hL4)
        have hgh' : ¬ (w.heap.size + 1 = h) := by omega
        have hgh2 : ¬ (w.heap.size + 2 = h) := by omega
        have hgh3 : ¬ (w.heap.size + 3 = h) := by omega
        have fg : Free wd g := Free.out (show Free wc g from fg) hO4 hgh
        have e0f := okeepf hO4 e0 e0f hgh2
        have e1f := okeepf hO4 e1 e1f hgh2
        have o0f := okeepf hO4 o0 o0f hgh3
        have o1f := okeepf hO4 o1 o1f hgh3
        have k0 := okeep hO4 k0 hgh'
        have k1 := okeep hO4 k1 hgh'
        have m0 := okeep hO4 m0 hgh
        have m1 := okeep hO4 m1 hgh
        have e0 := okeep hO4 e0 hgh2
        have e1 := okeep hO4 e1 hgh2
        have o0 := okeep hO4 o0 hgh3
        have o1 := okeep hO4 o1 hgh3
        have hBd : Below w.heap.size w wd := hBy.trans (hO4.to_below (fun k hk _ e => by omega) hBy.size)
        have fg0 := fg.2 0
        have fg1 := fg.2 1
        clear hi4 hO4 hL4 hBy HM HN ad
        go_upto_region 5 with (fail)
        go_cut [] (fun wx => ∃ n5 a5 c5, ∃ L5 : List Nat, wx.cell? ⟨g, 0, none⟩ = some (.bool n5) ∧ wx.cell? ⟨g, 1, none⟩ = some (.slice a5 L5.length c5) ∧ IsRef wx (.agg #[.bool n5, .slice a5 L5.length c5]) (sg (!(true == n2)) (NumR.val Q) - sv) ∧ Out (fun k => k = g) wd wx ∧ Lim wd wx)
        case first =>
          have hBw := Below.refl wd.heap.size wd
          go_region_law (go_simp; go_wp2_with (first
            | (go_at_call 145; refine (sx _).mono ?_; rintro e w5 ⟨rfl, hb5⟩; have hB5 : Below wd.heap.size wd w5 := bthen (by repeat (first | exact Below.refl _ _ | exact hBw | refine Below.drew ?_ | refine below_drewN ?_ _ | refine bset ?_ (by simp <;> omega) _ | refine bal ?_ _)) hb5; have d05 := bkeep hB5 m0; have d15 := bkeep hB5 m1)
            | (go_at_call 55; refine (ox _).mono ?_; rintro e w6 ⟨⟨v6, rfl, hi6⟩, hb6⟩; have hB6 : Below wd.heap.size wd w6 := bthen (by repeat (first | exact Below.refl _ _ | exact hB5 | refine Below.drew ?_ | refine below_drewN ?_ _ | refine bset ?_ (by simp <;> omega) _ | refine bal ?_ _)) hb6; have HI6 := Lib.hid hi6; have d06 := bkeep hB6 m0; have d16 := bkeep hB6 m1; obtain ⟨n6, a6, c6, l6, rfl, -⟩ := hi6; unfold iv at *)
            | (go_at_call 163; refine (sd _ _ _ ?_ ?_).mono ?_; (refine HN4.out.keep ?_; (repeat (first | exact Below.refl _ _ | exact hB6 | refine Below.drew ?_ | refine below_drewN ?_ _ | refine bset ?_ (by simp <;> omega) _ | refine bal ?_ _))); (refine HI6.out.keep ?_; have hBz := Below.refl w6.heap.size w6; (repeat (first | exact Below.refl _ _ | exact hBz | refine Below.drew ?_ | refine below_drewN ?_ _ | refine bset ?_ (by simp <;> omega) _ | refine bal ?_ _))); rintro e w7 ⟨⟨v7, rfl, hi7⟩, hb7⟩; have hB7 : Below wd.heap.size wd w7 := bthen (by repeat (first | exact Below.refl _ _ | exact hB6 | refine Below.drew ?_ | refine below_drewN ?_ _ | refine bset ?_ (by simp <;> omega) _ | refine bal ?_ _)) hb7; have HI7 := Lib.hid hi7; have d07 := bkeep hB7 m0; have d17 := bkeep hB7 m1; have d07f := bkeepf hB7 m0 fg0; have d17f := bkeepf hB7 m1 fg1; obtain ⟨n7, a7, c7, l7, rfl, -⟩ := hi7; unfold iv at *)))
          all_goals
            go_wp2_with fail
            go_meet
            refine ⟨n7, a7, c7, l7, cell_far (cell_here d07 _) (by simp) _, cell_here (cell_far d17 (by simp) _) _, HI7.out.put2 d07 d17 _ _, (Out.of_below (fun k => k = g) hB7).set2 (fun _ => rfl) _ _, (Lim.of_below hB7).trans (Lim.set2 d07 d17 _ _)⟩
        case rest =>
          obtain ⟨n5, a5, c5, L5, m0, m1, hi5, hO5, hL5⟩ := hcut
          rename World => wy
          have HI5 := Lib.hid hi5
          have HR5 := Lib.hid (HI4.out.lim hL5)
          have hgh4 : ¬ (w.heap.size + 2 = g) := by omega
          have hgh5 : ¬ (w.heap.size + 3 = g) := by omega
          have e0f := okeepf hO5 e0 e0f hgh4
          have e1f := okeepf hO5 e1 e1f hgh4
          have o0f := okeepf hO5 o0 o0f hgh5
          have o1f := okeepf hO5 o1 o1f hgh5
          have d0 := okeep hO5 d0 (show ¬ h = g from fun e => hgh e.symm)
          have d1 := okeep hO5 d1 (show ¬ h = g from fun e => hgh e.symm)
          have e0 := okeep hO5 e0 hgh4
          have e1 := okeep hO5 e1 hgh4
          have o0 := okeep hO5 o0 hgh5
          have o1 := okeep hO5 o1 hgh5
          have hBy : Below w.heap.size w wy := hBd.trans (hO5.to_below (fun k hk _ e => by omega) hBd.size)
          clear hi5 hO5 hL5 hBd HI4 HN4
          go_upto_region 6 with (fail)
          go_region
          go_wp2
          have hbe : Below w.heap.size w ((((wy.setCell ⟨w.heap.size + 1 + 1, 0, none⟩ (.bool n5)).setCell ⟨w.heap.size + 1 + 1, 1, none⟩ (.slice a5 L5.length c5)).setCell ⟨w.heap.size + 1 + 1 + 1, 0, none⟩ (.bool n4)).setCell ⟨w.heap.size + 1 + 1 + 1, 1, none⟩ (.slice a4 L4.length c4)).drew := Below.drew (bset (bset (bset (bset hBy (by simp <;> omega) _) (by simp <;> omega) _) (by simp <;> omega) _) (by simp <;> omega) _)
          have e0 : wy.cell? ⟨w.heap.size + 1 + 1, 0, none⟩ = some (.bool false) := e0
          have e1 : wy.cell? ⟨w.heap.size + 1 + 1, 1, none⟩ = some (.slice none 0 0) := e1
          have o0 : wy.cell? ⟨w.heap.size + 1 + 1 + 1, 0, none⟩ = some (.bool false) := o0
          have o1 : wy.cell? ⟨w.heap.size + 1 + 1 + 1, 1, none⟩ = some (.slice none 0 0) := o1
          refine bodyPost_ret (v := .tuple #[.agg #[.bool n5, .slice a5 L5.length c5], .agg #[.bool n4, .slice a4 L4.length c4]]) (by simp [results, Tryz.results181, go_sem, *]) rfl ⟨⟨_, _, rfl, ?_, ?_⟩, hbe⟩
          · rw [PL.out.1]
            exact ((HI5.out.put2 e0 e1 _ _).put2 (cell_far (cell_far o0 (by simp) _) (by simp) _) (cell_far (cell_far o1 (by simp) _) (by simp) _) _ _).keep (Below.drew (Below.refl _ _))
          · rw [PL.out.2]
            exact ((HR5.out.put2 e0 e1 _ _).put2 (cell_far (cell_far o0 (by simp) _) (by simp) _) (cell_far (cell_far o1 (by simp) _) (by simp) _) _ _).keep (Below.drew (Below.refl _ _))
end Go.Proofs.YtannhpadoooedaaGreatDoor

/- The reference's numbers: DivMod, by values; Over. -/
namespace Go.Proofs.YtannhpadoooedaaGreatDoor
open Num
open Go.ChangeShapes Go.WideShapes Go.ChangeAt Go.RowKit
set_option linter.unusedVariables false
set_option linter.unusedSimpArgs false
theorem sg_ne {n : Bool} {k : Nat} (h : sg n k ≠ 0) : 0 < k := by
  apply Nat.pos_of_ne_zero; intro e; subst e; exact h (sg_zero n)
theorem rdivmod_c (vx vy : Value) (x y : Int) (k : Nat) (w : World) (hx : IsRef w vx x) (hy : IsRef w vy y) (bx : Bd k x) (by' : Bd k y) (hk : k ≤ 17179869184) (h0 : y ≠ 0) :
    Calls Tryz.prog 181 #[vx, vy] w fun e w' => (∃ u v, e = .returned (.tuple #[u, v]) ∧ IsRef w' u (x / y) ∧ IsRef w' v (x % y)) ∧ Below w.heap.size w w' := by
  obtain ⟨n1, a1, c1, l1, rfl, u1, q1, g1, s1, rfl⟩ := hx
  obtain ⟨n2, a2, c2, l2, rfl, u2, q2, g2, s2, rfl⟩ := hy
  exact rdivmodV_c n1 n2 a1 a2 c1 c2 l1 l2 w u1 u2 q1 q2 g1 g2 (sg_ne h0) (Nat.le_trans (rbd_len g1 (rsg_bd bx) hk) (by omega)) (Nat.le_trans (rbd_len g2 (rsg_bd by') hk) (by omega)) s1 s2
theorem ref_len {n : Bool} {l : List Nat} (hn : Nrm l) : sg n (NumR.val l) = 0 ↔ l = [] := by
  constructor
  · intro h
    by_cases e : l = []
    · exact e
    · have h1 := Nat.lt_of_lt_of_le (Nat.pow_pos NumR.BB_pos) (NumR.nrm_val_pos hn e)
      have h2 := congrArg Int.natAbs h
      rw [sg_abs] at h2
      simp at h2; omega
  · rintro rfl; exact sg_zero n
set_option maxRecDepth 100000 in
set_option maxHeartbeats 2000000 in
theorem rover_yes (vx vy : Value) (x y : Int) (k : Nat) (w : World) (hx : IsRef w vx x) (hy : IsRef w vy y) (bx : Bd k x) (by' : Bd k y) (hk : k ≤ 17179869184) (h0 : y ≠ 0) (hd : x % y = 0) :
    Calls Tryz.prog 161 #[vx, vy] w fun e w' => (∃ v, e = .returned (.tuple #[v, .bool true]) ∧ IsRef w' v (x / y)) ∧ Below w.heap.size w w' := by
  have dc := fun W (h : Below w.heap.size w W) => rdivmod_c vx vy x y k W (hx.keep h) (hy.keep h) bx by' hk h0
  obtain ⟨n1, a1, c1, l1, rfl, -⟩ := hx
  obtain ⟨n2, a2, c2, l2, rfl, -⟩ := hy
  unfold iv at *
  have HD := Lib.hid hd
  clear bx by' hk h0 hd
  have hB := Below.refl w.heap.size w
  go_enter Tryz.func161, Tryz.ntmps161
  go_wp2_with fail
  refine (dc _ (by repeat (first | exact Below.refl _ _ | exact hB | refine Below.drew ?_ | refine below_drewN ?_ _ | refine bset ?_ (by simp <;> omega) _ | refine bal ?_ _))).mono ?_
  rintro e w1 ⟨⟨u, v, rfl, hu, hv⟩, hb1⟩
  have r0 : w1.cell? ⟨w.heap.size + 2, 0, none⟩ = some (.bool false) := bkeep hb1 (by first | assumption | exact cell_new (by with_reducible first | rfl | (simp; done) | (simp; omega)) rfl | (repeat (first | assumption | exact cell_new (by with_reducible first | rfl | (simp; done) | (simp; omega)) rfl | refine cell_alloc ?_ _ | refine cell_drew ?_ | refine cell_drewN ?_ _ | refine cell_far ?_ (by simp) _ | (refine cell_far ?_ (by simp <;> omega) _))) | simp [go_sem, *])
  have zr0 := cell_lt r0
  have r0f : w1.frozen? ⟨w.heap.size + 2, 0, none⟩ = false := bkeepf (v := .bool false) hb1 (by first | assumption | exact cell_new (by with_reducible first | rfl | (simp; done) | (simp; omega)) rfl | (repeat (first | assumption | exact cell_new (by with_reducible first | rfl | (simp; done) | (simp; omega)) rfl | refine cell_alloc ?_ _ | refine cell_drew ?_ | refine cell_drewN ?_ _ | refine cell_far ?_ (by simp) _ | (refine cell_far ?_ (by simp <;> omega) _))) | simp [go_sem, *]) (by first | assumption | (simp <;> assumption) | simp [go_sem, *])
  have r1 : w1.cell? ⟨w.heap.size + 2, 1, none⟩ = some (.slice none 0 0) := bkeep hb1 (by first | assumption | exact cell_new (by with_reducible first | rfl | (simp; done) | (simp; omega)) rfl | (repeat (first | assumption | exact cell_new (by with_reducible first | rfl | (simp; done) | (simp; omega)) rfl | refine cell_alloc ?_ _ | refine cell_drew ?_ | refine cell_drewN ?_ _ | refine cell_far ?_ (by simp) _ | (refine cell_far ?_ (by simp <;> omega) _))) | simp [go_sem, *])
  have r1f : w1.frozen? ⟨w.heap.size + 2, 1, none⟩ = false := bkeepf (v := .slice none 0 0) hb1 (by first | assumption | exact cell_new (by with_reducible first | rfl | (simp; done) | (simp; omega)) rfl | (repeat (first | assumption | exact cell_new (by with_reducible first | rfl | (simp; done) | (simp; omega)) rfl | refine cell_alloc ?_ _ | refine cell_drew ?_ | refine cell_drewN ?_ _ | refine cell_far ?_ (by simp) _ | (refine cell_far ?_ (by simp <;> omega) _))) | simp [go_sem, *]) (by first | assumption | (simp <;> assumption) | simp [go_sem, *])
  have hB : Below w.heap.size w w1 := bthen (by repeat (first | exact Below.refl _ _ | exact hB | refine Below.drew ?_ | refine below_drewN ?_ _ | refine bset ?_ (by simp <;> omega) _ | refine bal ?_ _)) hb1
  have hz : w.heap.size ≤ w1.heap.size := hB.size
  clear dc
  have HU := Lib.hid hu
  obtain ⟨nu, au, cu, lu, rfl, -⟩ := hu
  obtain ⟨nv, av, cv, lv, rfl, _, _, gv, _, ev⟩ := hv
  unfold iv at *
  have zr1 : w.heap.size + 2 < w1.heap.size + 1 := by omega
  have zr2 : w.heap.size + 2 < w1.heap.size + 1 + 1 := by omega
  obtain rfl : lv = [] := (ref_len gv).1 (by rw [← ev]; exact HD.out)
  clear gv ev
  go_wp2
  refine bodyPost_ret (v := .tuple #[.agg #[.bool nu, .slice au lu.length cu], .bool true]) (by simp [results, Tryz.results161, go_sem, *]) rfl ⟨⟨_, rfl, ?_⟩, ?_⟩
  · refine IsRef.keep (HU.out.put2 r0 r1 (.bool nu) (.slice au lu.length cu)) ?_
    repeat (first | exact Below.refl _ _ | exact hB | refine Below.drew ?_ | refine below_drewN ?_ _ | refine bset ?_ (by simp <;> omega) _ | refine bal ?_ _)
  ·
    repeat (first | exact Below.refl _ _ | exact hB | refine Below.drew ?_ | refine below_drewN ?_ _ | refine bset ?_ (by simp <;> omega) _ | refine bal ?_ _)
set_option maxRecDepth 100000 in
set_option maxHeartbeats 2000000 in
theorem rover_no (vx vy : Value) (x y : Int) (k : Nat) (w : World) (hx : IsRef w vx x) (hy : IsRef w vy y) (bx : Bd k x) (by' : Bd k y) (hk : k ≤ 17179869184) (h0 : y ≠ 0) (hd : x % y ≠ 0) :
    Calls Tryz.prog 161 #[vx, vy] w fun e w' => e = .returned (.tuple #[.agg #[.bool false, .slice none 0 0], .bool false]) ∧ Below w.heap.size w w' := by
  have dc := fun W (h : Below w.heap.size w W) => rdivmod_c vx vy x y k W (hx.keep h) (hy.keep h) bx by' hk h0
  obtain ⟨n1, a1, c1, l1, rfl, -⟩ := hx
  obtain ⟨n2, a2, c2, l2, rfl, -⟩ := hy
  unfold iv at *
  have HD := Lib.hid hd
  clear bx by' hk h0 hd
  have hB := Below.refl w.heap.size w
  go_enter Tryz.func161, Tryz.ntmps161
  go_wp2_with fail
  refine (dc _ (by repeat (first | exact Below.refl _ _ | exact hB | refine Below.drew ?_ | refine below_drewN ?_ _ | refine bset ?_ (by simp <;> omega) _ | refine bal ?_ _))).mono ?_
  rintro e w1 ⟨⟨u, v, rfl, hu, hv⟩, hb1⟩
  have r0 : w1.cell? ⟨w.heap.size + 2, 0, none⟩ = some (.bool false) := bkeep hb1 (by first | assumption | exact cell_new (by with_reducible first | rfl | (simp; done) | (simp; omega)) rfl | (repeat (first | assumption | exact cell_new (by with_reducible first | rfl | (simp; done) | (simp; omega)) rfl | refine cell_alloc ?_ _ | refine cell_drew ?_ | refine cell_drewN ?_ _ | refine cell_far ?_ (by simp) _ | (refine cell_far ?_ (by simp <;> omega) _))) | simp [go_sem, *])
  have zr0 := cell_lt r0
  have r0f : w1.frozen? ⟨w.heap.size + 2, 0, none⟩ = false := bkeepf (v := .bool false) hb1 (by first | assumption | exact cell_new (by with_reducible first | rfl | (simp; done) | (simp; omega)) rfl | (repeat (first | assumption | exact cell_new (by with_reducible first | rfl | (simp; done) | (simp; omega)) rfl | refine cell_alloc ?_ _ | refine cell_drew ?_ | refine cell_drewN ?_ _ | refine cell_far ?_ (by simp) _ | (refine cell_far ?_ (by simp <;> omega) _))) | simp [go_sem, *]) (by first | assumption | (simp <;> assumption) | simp [go_sem, *])
  have r1 : w1.cell? ⟨w.heap.size + 2, 1, none⟩ = some (.slice none 0 0) := bkeep hb1 (by first | assumption | exact cell_new (by with_reducible first | rfl | (simp; done) | (simp; omega)) rfl | (repeat (first | assumption | exact cell_new (by with_reducible first | rfl | (simp; done) | (simp; omega)) rfl | refine cell_alloc ?_ _ | refine cell_drew ?_ | refine cell_drewN ?_ _ | refine cell_far ?_ (by simp) _ | (refine cell_far ?_ (by simp <;> omega) _))) | simp [go_sem, *])
  have r1f : w1.frozen? ⟨w.heap.size + 2, 1, none⟩ = false := bkeepf (v := .slice none 0 0) hb1 (by first | assumption | exact cell_new (by with_reducible first | rfl | (simp; done) | (simp; omega)) rfl | (repeat (first | assumption | exact cell_new (by with_reducible first | rfl | (simp; done) | (simp; omega)) rfl | refine cell_alloc ?_ _ | refine cell_drew ?_ | refine cell_drewN ?_ _ | refine cell_far ?_ (by simp) _ | (refine cell_far ?_ (by simp <;> omega) _))) | simp [go_sem, *]) (by first | assumption | (simp <;> assumption) | simp [go_sem, *])
  have hB : Below w.heap.size w w1 := bthen (by repeat (first | exact Below.refl _ _ | exact hB | refine Below.drew ?_ | refine below_drewN ?_ _ | refine bset ?_ (by simp <;> omega) _ | refine bal ?_ _)) hb1
  have hz : w.heap.size ≤ w1.heap.size := hB.size
  clear dc
  have HU := Lib.hid hu
  obtain ⟨nu, au, cu, lu, rfl, -⟩ := hu
  obtain ⟨nv, av, cv, lv, rfl, _, _, gv, _, ev⟩ := hv
  unfold iv at *
  have zr1 : w.heap.size + 2 < w1.heap.size + 1 := by omega
  have zr2 : w.heap.size + 2 < w1.heap.size + 1 + 1 := by omega
  have hl : (0 : Int) < (lv.length : Int) := by
    have : lv ≠ [] := fun e => HD.out (by rw [ev]; exact (ref_len gv).2 e)
    have := List.length_pos_iff.2 this
    omega
  clear gv ev
  go_wp2
  refine bodyPost_ret (v := .tuple #[.agg #[.bool false, .slice none 0 0], .bool false]) (by simp [results, Tryz.results161, go_sem, *]) rfl ⟨rfl, ?_⟩
  repeat (first | exact Below.refl _ _ | exact hB | refine Below.drew ?_ | refine below_drewN ?_ _ | refine bset ?_ (by simp <;> omega) _ | refine bal ?_ _)
end Go.Proofs.YtannhpadoooedaaGreatDoor

/- The reference's rows: Combine, Add, Sub, Scale, Zero. -/
namespace Go.Proofs.YtannhpadoooedaaGreatDoor
open Num
open Go.ChangeShapes Go.WideShapes Go.ChangeAt Go.RowKit
set_option linter.unusedVariables false
set_option linter.unusedSimpArgs false
attribute [local go_sem ↓] Go.wp_at_zero Go.wp_at_succ
theorem RowO.makeRef (w : World) (n : Nat) (hn : n ≤ maxLen) : RowO IsRef 44 w.heap.size (w.alloc (.cells (zcel n) 44)) (.slice (some ⟨w.heap.size, 0, none⟩) n n) (List.replicate n 0) := by
  have hs : (zcel n).size = n * 2 := by simp [zcel, size_madeCells]
  have hl : (zcel n).toList.length = n * 2 := by rw [Array.length_toList, hs]
  refine ⟨(zcel n).toList, ⟨by rw [List.length_replicate]; exact hl, .inr ⟨w.heap.size, n, zcel n, by rw [List.length_replicate], Nat.le_refl _, (MapKept.heap_alloc w _).1, by rw [List.length_replicate]; exact Nat.le_refl _, hn, hs, ?_⟩⟩, fun k hk => ?_⟩
  · rw [List.length_replicate, ← hl, List.take_length]
  · rw [List.length_replicate] at hk
    obtain ⟨h1, h2⟩ := zcel_at hk
    refine ⟨false, none, 0, 0, by rw [Array.getElem?_toList]; exact h1, by rw [Array.getElem?_toList]; exact h2, ?_⟩
    have : (List.replicate n (0 : Int)).getD k 0 = 0 := by simp [hk]
    rw [this]; exact isRef_zero _
abbrev RowQ (base : Nat) := RowO IsRef 44 base
set_option maxRecDepth 100000 in
set_option maxHeartbeats 8000000 in
theorem rcomb_c (vc vd va vb : Value) (c d : Int) (la lb lz : List Int) (k m : Nat) (w : World) (hc : IsRef w vc c) (hd : IsRef w vd d) (ha : RRow 0 w va la) (hb : RRow 0 w vb lb) (hl : la.length ≤ 1099511627775) (hle : la.length ≤ lb.length)
    (ba : ∀ j, Bd k (la.getD j 0)) (bb : ∀ j, Bd k (lb.getD j 0)) (bc : Bd m c) (bd : Bd m d) (hk : k + m ≤ 17179869184) (hz : lz.length = la.length) (hzz : ∀ j, j < la.length → lz.getD j 0 = c * la.getD j 0 + d * lb.getD j 0) :
    Calls Tryz.prog 159 #[vc, va, vd, vb] w fun e w' => (∃ u, e = .returned u ∧ RowQ w.heap.size w' u lz) ∧ Below w.heap.size w w' := by
  have HC := Lib.hid (And.intro hc hd)
  have HA := Lib.hid ha
  have HBB := Lib.hid hb
  have HBD := Lib.hid (And.intro ba (And.intro bb (And.intro bc bd)))
  have HZ := Lib.hid (And.intro hz hzz)
  obtain ⟨aa, ca, rfl, -⟩ := ha
  obtain ⟨ab, cb, rfl, -⟩ := hb
  obtain ⟨n1, a1, c1, l1, rfl, -⟩ := hc
  obtain ⟨n2, a2, c2, l2, rfl, -⟩ := hd
  unfold iv at *
  clear ba bb bc bd hz hzz
  have hB := Below.refl w.heap.size w
  go_enter Tryz.func159, Tryz.ntmps159
  go_wp2
  refine wp_name fun w0 hW0 => ?_
  have x0 : w0.cell? ⟨w.heap.size, 0, none⟩ = some (.bool n1) := by rw [hW0]; exact (by first | assumption | exact cell_new (by with_reducible first | rfl | (simp; done) | (simp; omega)) rfl | (repeat (first | assumption | exact cell_new (by with_reducible first | rfl | (simp; done) | (simp; omega)) rfl | refine cell_alloc ?_ _ | refine cell_drew ?_ | refine cell_drewN ?_ _ | refine cell_far ?_ (by simp) _ | (refine cell_far ?_ (by simp <;> omega) _))) | simp [go_sem, *])
  have zx0 := cell_lt x0
  have x1 : w0.cell? ⟨w.heap.size, 1, none⟩ = some (.slice a1 l1.length c1) := by rw [hW0]; exact (by first | assumption | exact cell_new (by with_reducible first | rfl | (simp; done) | (simp; omega)) rfl | (repeat (first | assumption | exact cell_new (by with_reducible first | rfl | (simp; done) | (simp; omega)) rfl | refine cell_alloc ?_ _ | refine cell_drew ?_ | refine cell_drewN ?_ _ | refine cell_far ?_ (by simp) _ | (refine cell_far ?_ (by simp <;> omega) _))) | simp [go_sem, *])
  have y0 : w0.cell? ⟨w.heap.size + 1, 0, none⟩ = some (.bool n2) := by rw [hW0]; exact (by first | assumption | exact cell_new (by with_reducible first | rfl | (simp; done) | (simp; omega)) rfl | (repeat (first | assumption | exact cell_new (by with_reducible first | rfl | (simp; done) | (simp; omega)) rfl | refine cell_alloc ?_ _ | refine cell_drew ?_ | refine cell_drewN ?_ _ | refine cell_far ?_ (by simp) _ | (refine cell_far ?_ (by simp <;> omega) _))) | simp [go_sem, *])
  have zy0 := cell_lt y0
  have y1 : w0.cell? ⟨w.heap.size + 1, 1, none⟩ = some (.slice a2 l2.length c2) := by rw [hW0]; exact (by first | assumption | exact cell_new (by with_reducible first | rfl | (simp; done) | (simp; omega)) rfl | (repeat (first | assumption | exact cell_new (by with_reducible first | rfl | (simp; done) | (simp; omega)) rfl | refine cell_alloc ?_ _ | refine cell_drew ?_ | refine cell_drewN ?_ _ | refine cell_far ?_ (by simp) _ | (refine cell_far ?_ (by simp <;> omega) _))) | simp [go_sem, *])
  have hB : Below w.heap.size w w0 := by rw [hW0]; repeat (first | exact Below.refl _ _ | exact hB | refine Below.drew ?_ | refine below_drewN ?_ _ | refine bset ?_ (by simp <;> omega) _ | refine bal ?_ _)
  have hz : w.heap.size ≤ w0.heap.size := hB.size
  clear hW0
  have hz0 : w.heap.size < w0.heap.size := zx0
  have hz1 : w.heap.size + 1 < w0.heap.size := zy0
  have HP := Lib.hid (show ∀ W, Below w0.heap.size w0 W → W.cell? ⟨w.heap.size, 0, none⟩ = some (.bool n1) ∧ W.cell? ⟨w.heap.size, 1, none⟩ = some (.slice a1 l1.length c1) ∧ W.cell? ⟨w.heap.size + 1, 0, none⟩ = some (.bool n2) ∧ W.cell? ⟨w.heap.size + 1, 1, none⟩ = some (.slice a2 l2.length c2) from fun W h => ⟨bkeep h x0, bkeep h x1, bkeep h y0, bkeep h y1⟩)
  clear x0 x1 y0 y1
  go_loopw [9, 10] (fun v x wr => ∃ j : Nat, j ≤ la.length ∧ x = .int .i64 j ∧ Hid (OwnF IsRef 44 w0 wr v j (fun i => lz.getD i 0))) (fun _ x _ => la.length - (intOf x).toNat)
  case atStart => exact ⟨0, Nat.zero_le _, rfl, Lib.hid (OwnF.nil _ _ _ (Below.refl _ _))⟩
  case round =>
    obtain ⟨j, hj, rfl, hF⟩ := hrel
    have hbr := hF.out.bel
    have hBr := bthen hB hbr
    obtain ⟨fa, fc, hfv⟩ : ∃ a c, _ = Value.slice a j c := by obtain ⟨a, c, h, _⟩ := hF.out.view; exact ⟨a, c, h⟩
    subst hfv
    by_cases hlt : j < la.length
    · have hltI : (j : Int) < (la.length : Int) := by omega
      have hltJ : (j : Int) < (lb.length : Int) := by omega
      obtain ⟨a', c', he, -, vr⟩ := HA.out.view
      obtain ⟨rfl, -, rfl⟩ := Value.slice.inj he
      obtain ⟨b', d', he2, -, vs⟩ := HBB.out.view
      obtain ⟨rfl, -, rfl⟩ := Value.slice.inj he2
      obtain ⟨rb, ro, n3, a3, l3, c3, rfl, r0, r1, hi⟩ := vr j hlt
      obtain ⟨sb, so, n4, a4, l4, c4, rfl, s0, s1, hi2⟩ := vs j (by omega)
      have m1 := fun W (q : Below w0.heap.size w0 W) => rmul_c _ _ c (la.getD j 0) m k W (HC.out.1.keep (bthen hB q)) (hi.keep (bthen hB q)) HBD.out.2.2.1 (HBD.out.1 j) (by omega) (by omega)
      have m2 := fun W (q : Below w0.heap.size w0 W) => rmul_c _ _ d (lb.getD j 0) m k W (HC.out.2.keep (bthen hB q)) (hi2.keep (bthen hB q)) HBD.out.2.2.2 (HBD.out.2.1 j) (by omega) (by omega)
      have ad := fun v5 v6 W h5 h6 => radd_c v5 v6 (c * la.getD j 0) (d * lb.getD j 0) (m + k) W h5 h6 (HBD.out.2.2.1.mul (HBD.out.1 j)) (HBD.out.2.2.2.mul (HBD.out.2.1 j)) (by omega)
      rw [← HZ.out.2 j hlt] at ad
      have HAJ := Lib.hid (snoc_fun lz j (by rw [HZ.out.1]; exact hlt))
      obtain ⟨z, hz⟩ : ∃ z, lz.getD j 0 = z := ⟨_, rfl⟩
      obtain ⟨p, hp⟩ : ∃ p, c * la.getD j 0 = p := ⟨_, rfl⟩
      obtain ⟨q, hq⟩ : ∃ q, d * lb.getD j 0 = q := ⟨_, rfl⟩
      rw [hz] at ad HAJ
      rw [hp] at ad m1
      rw [hq] at ad m2
      have HS := Lib.hid (show ∀ W, Below w0.heap.size w0 W → W.cell? ⟨w.heap.size, 0, none⟩ = some (.bool n1) ∧ W.cell? ⟨w.heap.size, 1, none⟩ = some (.slice a1 l1.length c1) ∧ W.cell? ⟨w.heap.size + 1, 0, none⟩ = some (.bool n2) ∧ W.cell? ⟨w.heap.size + 1, 1, none⟩ = some (.slice a2 l2.length c2) ∧ W.cell? ⟨rb, ro + j * 2, none⟩ = some (.bool n3) ∧ W.cell? ⟨rb, ro + j * 2 + 1, none⟩ = some (.slice a3 l3 c3) ∧ W.cell? ⟨sb, so + j * 2, none⟩ = some (.bool n4) ∧ W.cell? ⟨sb, so + j * 2 + 1, none⟩ = some (.slice a4 l4 c4) from fun W h => ⟨(HP.out W h).1, (HP.out W h).2.1, (HP.out W h).2.2.1, (HP.out W h).2.2.2, bkeep (bthen hB h) r0, bkeep (bthen hB h) r1, bkeep (bthen hB h) s0, bkeep (bthen hB h) s1⟩)
      have hBc := hbr
      obtain ⟨q1, q2, q3, q4, q5, q6, q7, q8⟩ := HS.out wr hBc
      have zz1 := cell_lt q1
      have zz3 := cell_lt q3
      have zz5 := cell_lt q5
      have zz7 := cell_lt q7
      have HF0 := Lib.hid (hF.out.below lims_ref (Below.refl _ _).drew)
      clear hi hi2 r0 r1 s0 s1 vr vs he he2 hz hp hq
      go_wp2
      go_region_held3 (fun w' => w'.cell? ⟨w.heap.size, 0, none⟩ = some (.bool n1) ∧ w'.cell? ⟨w.heap.size, 1, none⟩ = some (.slice a1 l1.length c1) ∧ w'.cell? ⟨w.heap.size + 1, 0, none⟩ = some (.bool n2) ∧ w'.cell? ⟨w.heap.size + 1, 1, none⟩ = some (.slice a2 l2.length c2) ∧ w'.cell? ⟨rb, ro + j * 2, none⟩ = some (.bool n3) ∧ w'.cell? ⟨rb, ro + j * 2 + 1, none⟩ = some (.slice a3 l3 c3) ∧ w'.cell? ⟨sb, so + j * 2, none⟩ = some (.bool n4) ∧ w'.cell? ⟨sb, so + j * 2 + 1, none⟩ = some (.slice a4 l4 c4))
        (first | (refine HS.out _ ?_; (repeat (first | exact Below.refl _ _ | exact hBc | refine Below.drew ?_ | refine below_drewN ?_ _ | refine bset ?_ (by simp <;> omega) _ | refine bal ?_ _)); done) | fail)
        (first
          | (refine step_num0 elRw (by decide) lims_ref (by rfl) (by rfl) HF7.out HV7.out (by rfl) (by rfl) (by omega) ?_; intro v' w8 hF8 _ _; have HF8 := Lib.hid (hF8.congr' HAJ.out); (clear hBc; have hBc := hF8.bel); clear hF8)
          | (go_at_call 148; (with_reducible refine (m1 _ ?_).mono ?_); (repeat (first | exact Below.refl _ _ | exact hBc | refine Below.drew ?_ | refine below_drewN ?_ _ | refine bset ?_ (by simp <;> omega) _ | refine bal ?_ _)); rintro e w5 ⟨⟨v5, rfl, hv5⟩, hb5⟩; (have hBd : Below w0.heap.size w0 w5 := bthen (by repeat (first | exact Below.refl _ _ | exact hBc | refine Below.drew ?_ | refine below_drewN ?_ _ | refine bset ?_ (by simp <;> omega) _ | refine bal ?_ _)) hb5; clear hBc; have hBc := hBd; clear hBd); have HF5 := Lib.hid (HF0.out.below lims_ref hb5); have HV5 := Lib.hid hv5; have hx5 := Below.refl w5.heap.size w5; obtain ⟨n5, a5, c5, l5, rfl, -⟩ := hv5; unfold iv at *)
          | (go_at_call 148; (with_reducible refine (m2 _ ?_).mono ?_); (repeat (first | exact Below.refl _ _ | exact hBc | refine Below.drew ?_ | refine below_drewN ?_ _ | refine bset ?_ (by simp <;> omega) _ | refine bal ?_ _)); rintro e w6 ⟨⟨v6, rfl, hv6⟩, hb6⟩; (have hb56 : Below w5.heap.size w5 w6 := bthen (by repeat (first | exact Below.refl _ _ | exact hx5 | refine Below.drew ?_ | refine below_drewN ?_ _ | refine bset ?_ (by simp <;> omega) _ | refine bal ?_ _)) hb6); have HV56 := Lib.hid (HV5.out.keep hb56); have HF6 := Lib.hid (HF5.out.below lims_ref hb56); (have hBd : Below w0.heap.size w0 w6 := bthen (by repeat (first | exact Below.refl _ _ | exact hBc | refine Below.drew ?_ | refine below_drewN ?_ _ | refine bset ?_ (by simp <;> omega) _ | refine bal ?_ _)) hb6; clear hBc; have hBc := hBd; clear hBd); have HV6 := Lib.hid hv6; have hx6 := Below.refl w6.heap.size w6; obtain ⟨n6, a6, c6, l6, rfl, -⟩ := hv6; unfold iv at *)
          | (go_at_call 147; (with_reducible refine (ad _ _ _ ?_ ?_).mono ?_); (refine HV56.out.keep ?_; (repeat (first | exact Below.refl _ _ | exact hx6 | refine Below.drew ?_ | refine below_drewN ?_ _ | refine bset ?_ (by simp <;> omega) _ | refine bal ?_ _))); (refine HV6.out.keep ?_; (repeat (first | exact Below.refl _ _ | exact hx6 | refine Below.drew ?_ | refine below_drewN ?_ _ | refine bset ?_ (by simp <;> omega) _ | refine bal ?_ _))); rintro e w7 ⟨⟨v7, rfl, hv7⟩, hb7⟩; (have hb67 : Below w6.heap.size w6 w7 := bthen (by repeat (first | exact Below.refl _ _ | exact hx6 | refine Below.drew ?_ | refine below_drewN ?_ _ | refine bset ?_ (by simp <;> omega) _ | refine bal ?_ _)) hb7); (have hBd : Below w0.heap.size w0 w7 := bthen (by repeat (first | exact Below.refl _ _ | exact hBc | refine Below.drew ?_ | refine below_drewN ?_ _ | refine bset ?_ (by simp <;> omega) _ | refine bal ?_ _)) hb7; clear hBc; have hBc := hBd; clear hBd); have HV7 := Lib.hid hv7; have HF7 := Lib.hid (HF6.out.below lims_ref hb67); obtain ⟨n7, a7, c7, l7, rfl, -⟩ := hv7; unfold iv at *)
          | fail)
      go_wp2
      exact ⟨⟨j + 1, by omega, by go_num, HF8⟩, by simp [intOf]; omega⟩
    · obtain rfl : j = la.length := by omega
      have hF2 := Lib.hid (show RowQ w.heap.size wr (.slice fa la.length fc) lz from (show OwnF IsRef 44 w0 wr (.slice fa la.length fc) lz.length (fun i => lz.getD i 0) by rw [HZ.out.1]; exact hF.out).rowO.rebase hB.size)
      go_wp2
      go_ret
      exact ⟨⟨_, rfl, hF2.out⟩, hBr⟩
theorem comb_map {la : List Int} (g : Int → Int) {c d : Int} {lb : List Int} (h : ∀ j, j < la.length → g (la.getD j 0) = c * la.getD j 0 + d * lb.getD j 0) : ∀ j, j < la.length → (la.map g).getD j 0 = c * la.getD j 0 + d * lb.getD j 0 := fun j hj => by
  rw [show (la.map g).getD j 0 = g (la.getD j 0) by simp [hj]]; exact h j hj
theorem comb_zip {la lb : List Int} (g : Int → Int → Int) {c d : Int} (he : la.length = lb.length) (h : ∀ x y, g x y = c * x + d * y) : ∀ j, j < la.length → (List.zipWith g la lb).getD j 0 = c * la.getD j 0 + d * lb.getD j 0 := fun j hj => by
  have hj2 : j < lb.length := by omega
  rw [show (List.zipWith g la lb).getD j 0 = g (la.getD j 0) (lb.getD j 0) by simp [List.getD_eq_getElem?_getD, List.getElem?_zipWith, hj, hj2], h]
set_option maxRecDepth 100000 in
set_option maxHeartbeats 2000000 in
theorem rscale_c (va vc : Value) (la : List Int) (c : Int) (k m : Nat) (w : World) (ha : RRow 0 w va la) (hc : IsRef w vc c) (hl : la.length ≤ 1099511627775) (ba : ∀ j, Bd k (la.getD j 0)) (bc : Bd m c) (hk : k + m ≤ 17179869184) :
    Calls Tryz.prog 107 #[va, vc] w fun e w' => (∃ u, e = .returned u ∧ RowQ w.heap.size w' u (la.map fun x => x * c)) ∧ Below w.heap.size w w' := by
  have cx := fun W (h : Below w.heap.size w W) => rcomb_c vc (.agg #[.bool false, .slice none 0 0]) va va c 0 la la (la.map fun x => x * c) k m W (hc.keep h) (isRef_zero W) (ha.keep lims_ref h) (ha.keep lims_ref h) hl (Nat.le_refl _) ba ba bc bd_zero hk (by rw [List.length_map]) (comb_map (fun x => x * c) fun j hj => by rw [Int.zero_mul, Int.add_zero, Int.mul_comm])
  obtain ⟨aa, ca, rfl, -⟩ := ha
  obtain ⟨n1, a1, c1, l1, rfl, -⟩ := hc
  unfold iv at *
  clear ba bc
  have hB := Below.refl w.heap.size w
  go_enter Tryz.func107, Tryz.ntmps107
  go_wp2_with fail
  refine (cx _ (by repeat (first | exact Below.refl _ _ | exact hB | refine Below.drew ?_ | refine below_drewN ?_ _ | refine bset ?_ (by simp <;> omega) _ | refine bal ?_ _))).mono ?_
  rintro e w1 ⟨⟨u, rfl, hu⟩, hb1⟩
  have hB1 : Below w.heap.size w w1 := bthen (by repeat (first | exact Below.refl _ _ | exact hB | refine Below.drew ?_ | refine below_drewN ?_ _ | refine bset ?_ (by simp <;> omega) _ | refine bal ?_ _)) hb1
  have HU := Lib.hid (hu.rebase (base' := w.heap.size) (by simp))
  obtain ⟨ua, un, uc, rfl⟩ : ∃ a n c, u = Value.slice a n c := by obtain ⟨a, c, h⟩ := hu.ex; exact ⟨a, _, c, h⟩
  clear cx hu
  go_wp2
  go_ret
  exact ⟨⟨_, rfl, HU.out⟩, hB1⟩
set_option maxRecDepth 100000 in
set_option maxHeartbeats 2000000 in
theorem radd4_c (va vb : Value) (la lb : List Int) (k : Nat) (w : World) (ha : RRow 0 w va la) (hb : RRow 0 w vb lb) (hl : la.length ≤ 1099511627775) (he : la.length = lb.length) (ba : ∀ j, Bd k (la.getD j 0)) (bb : ∀ j, Bd k (lb.getD j 0)) (hk : k ≤ 17179869180) :
    Calls Tryz.prog 108 #[va, vb] w fun e w' => (∃ u, e = .returned u ∧ RowQ w.heap.size w' u (List.zipWith (fun x y => x + y) la lb)) ∧ Below w.heap.size w w' := by
  have o1 := fun W => rof_c 1 W (by omega) (by omega)
  have o2 := fun W => rof_c 1 W (by omega) (by omega)
  have cx := fun v1 v2 W (h : Below w.heap.size w W) (h1 : IsRef W v1 1) (h2 : IsRef W v2 1) => rcomb_c v1 v2 va vb 1 1 la lb (List.zipWith (fun x y => x + y) la lb) k 1 W h1 h2 (ha.keep lims_ref h) (hb.keep lims_ref h) hl (by omega) ba bb (by unfold Bd; decide) (by unfold Bd; decide) (by omega) (by rw [List.length_zipWith]; omega) (comb_zip (fun x y => x + y) he fun x y => by omega)
  have CX := Lib.hid cx
  obtain ⟨aa, ca, rfl, -⟩ := ha
  obtain ⟨ab, cb, rfl, -⟩ := hb
  have hB := Below.refl w.heap.size w
  clear ba bb he cx
  go_enter Tryz.func108, Tryz.ntmps108
  go_wp2_with fail
  refine (o1 _).mono ?_
  rintro e w1 ⟨⟨v1, rfl, h1⟩, hb1⟩
  have hB1 : Below w.heap.size w w1 := bthen (by repeat (first | exact Below.refl _ _ | exact hB | refine Below.drew ?_ | refine below_drewN ?_ _ | refine bset ?_ (by simp <;> omega) _ | refine bal ?_ _)) hb1
  have H1 := Lib.hid h1
  obtain ⟨n1, a1, c1, l1, rfl, -⟩ := h1
  unfold iv at *
  have hw1 := Below.refl w1.heap.size w1
  go_wp2_with fail
  refine (o2 _).mono ?_
  rintro e w2 ⟨⟨v2, rfl, h2⟩, hb2⟩
  have hb2' : Below w1.heap.size w1 w2 := bthen (by repeat (first | exact Below.refl _ _ | exact hw1 | refine Below.drew ?_ | refine below_drewN ?_ _ | refine bset ?_ (by simp <;> omega) _ | refine bal ?_ _)) hb2
  have H2 := Lib.hid h2
  have H12 := Lib.hid (H1.out.keep hb2')
  obtain ⟨n2, a2, c2, l2, rfl, -⟩ := h2
  unfold iv at *
  have hw2 := Below.refl w2.heap.size w2
  have hB2 := bthen hB1 hb2'
  have k1 := fun W (h : Below w2.heap.size w2 W) => CX.out _ _ W (bthen hB2 h) (H12.out.keep h) (H2.out.keep h)
  clear o1 o2 CX
  go_wp2_with fail
  refine (k1 _ (by repeat (first | exact Below.refl _ _ | exact hw2 | refine Below.drew ?_ | refine below_drewN ?_ _ | refine bset ?_ (by simp <;> omega) _ | refine bal ?_ _))).mono ?_
  rintro e w3 ⟨⟨u, rfl, hu⟩, hb3⟩
  have hB3 : Below w.heap.size w w3 := bthen hB2 (bthen (by repeat (first | exact Below.refl _ _ | exact hw2 | refine Below.drew ?_ | refine below_drewN ?_ _ | refine bset ?_ (by simp <;> omega) _ | refine bal ?_ _)) hb3)
  have HU := Lib.hid (hu.rebase (base' := w.heap.size) (by first | exact hB2.size | (simp; exact hB2.size)))
  obtain ⟨ua, un, uc, rfl⟩ : ∃ a n c, u = Value.slice a n c := by obtain ⟨a, c, h⟩ := hu.ex; exact ⟨a, _, c, h⟩
  clear k1 hu
  go_wp2
  go_ret
  exact ⟨⟨_, rfl, HU.out⟩, hB3⟩
set_option maxRecDepth 100000 in
set_option maxHeartbeats 2000000 in
theorem rsub4_c (va vb : Value) (la lb : List Int) (k : Nat) (w : World) (ha : RRow 0 w va la) (hb : RRow 0 w vb lb) (hl : la.length ≤ 1099511627775) (he : la.length = lb.length) (ba : ∀ j, Bd k (la.getD j 0)) (bb : ∀ j, Bd k (lb.getD j 0)) (hk : k ≤ 17179869180) :
    Calls Tryz.prog 109 #[va, vb] w fun e w' => (∃ u, e = .returned u ∧ RowQ w.heap.size w' u (List.zipWith (fun x y => x - y) la lb)) ∧ Below w.heap.size w w' := by
  have o1 := fun W => rof_c 1 W (by omega) (by omega)
  have o2 := fun W => rof_c (-1) W (by omega) (by omega)
  have cx := fun v1 v2 W (h : Below w.heap.size w W) (h1 : IsRef W v1 1) (h2 : IsRef W v2 (-1)) => rcomb_c v1 v2 va vb 1 (-1) la lb (List.zipWith (fun x y => x - y) la lb) k 1 W h1 h2 (ha.keep lims_ref h) (hb.keep lims_ref h) hl (by omega) ba bb (by unfold Bd; decide) (by unfold Bd; decide) (by omega) (by rw [List.length_zipWith]; omega) (comb_zip (fun x y => x - y) he fun x y => by omega)
  have CX := Lib.hid cx
  obtain ⟨aa, ca, rfl, -⟩ := ha
  obtain ⟨ab, cb, rfl, -⟩ := hb
  have hB := Below.refl w.heap.size w
  clear ba bb he cx
  go_enter Tryz.func109, Tryz.ntmps109
  go_wp2_with fail
  refine (o1 _).mono ?_
  rintro e w1 ⟨⟨v1, rfl, h1⟩, hb1⟩
  have hB1 : Below w.heap.size w w1 := bthen (by repeat (first | exact Below.refl _ _ | exact hB | refine Below.drew ?_ | refine below_drewN ?_ _ | refine bset ?_ (by simp <;> omega) _ | refine bal ?_ _)) hb1
  have H1 := Lib.hid h1
  obtain ⟨n1, a1, c1, l1, rfl, -⟩ := h1
  unfold iv at *
  have hw1 := Below.refl w1.heap.size w1
  go_wp2_with fail
  refine (o2 _).mono ?_
  rintro e w2 ⟨⟨v2, rfl, h2⟩, hb2⟩
  have hb2' : Below w1.heap.size w1 w2 := bthen (by repeat (first | exact Below.refl _ _ | exact hw1 | refine Below.drew ?_ | refine below_drewN ?_ _ | refine bset ?_ (by simp <;> omega) _ | refine bal ?_ _)) hb2
  have H2 := Lib.hid h2
  have H12 := Lib.hid (H1.out.keep hb2')
  obtain ⟨n2, a2, c2, l2, rfl, -⟩ := h2
  unfold iv at *
  have hw2 := Below.refl w2.heap.size w2
  have hB2 := bthen hB1 hb2'
  have k1 := fun W (h : Below w2.heap.size w2 W) => CX.out _ _ W (bthen hB2 h) (H12.out.keep h) (H2.out.keep h)
  clear o1 o2 CX
  go_wp2_with fail
  refine (k1 _ (by repeat (first | exact Below.refl _ _ | exact hw2 | refine Below.drew ?_ | refine below_drewN ?_ _ | refine bset ?_ (by simp <;> omega) _ | refine bal ?_ _))).mono ?_
  rintro e w3 ⟨⟨u, rfl, hu⟩, hb3⟩
  have hB3 : Below w.heap.size w w3 := bthen hB2 (bthen (by repeat (first | exact Below.refl _ _ | exact hw2 | refine Below.drew ?_ | refine below_drewN ?_ _ | refine bset ?_ (by simp <;> omega) _ | refine bal ?_ _)) hb3)
  have HU := Lib.hid (hu.rebase (base' := w.heap.size) (by first | exact hB2.size | (simp; exact hB2.size)))
  obtain ⟨ua, un, uc, rfl⟩ : ∃ a n c, u = Value.slice a n c := by obtain ⟨a, c, h⟩ := hu.ex; exact ⟨a, _, c, h⟩
  clear k1 hu
  go_wp2
  go_ret
  exact ⟨⟨_, rfl, HU.out⟩, hB3⟩
theorem mkRw (n : Nat) (hn : n ≤ 1099511627776) (w : World) : (Instr.makeSlice 31 (.int .i64 (n : Int)) (.int .i64 (n : Int))).run Tryz.prog w = .ok (.slice (some ⟨w.heap.size, 0, none⟩) n n) (w.alloc (.cells (zcel n) 44)) := by
  obtain ⟨i0, hi, hz0, hz1, hz2⟩ := info_parts infoRef
  rw [run_make w _ _ i0 _ Tryz.underlying31 hi hz0 .i64 .i64 n n (by omega) (by omega) (by rw [hz2]; omega) (by omega), hz1]
  rfl
set_option maxRecDepth 100000 in
set_option maxHeartbeats 2000000 in
theorem rzero_c (n : Nat) (w : World) (hn : n ≤ 1099511627776) :
    Calls Tryz.prog 62 #[.int .i64 (n : Int)] w fun e w' => (∃ a c, e = .returned (.slice a n c) ∧ RowQ w.heap.size w' (.slice a n c) (List.replicate n 0)) ∧ Below w.heap.size w w' := by
  have hmk := mkRw n hn
  have hB := Below.refl w.heap.size w
  have HR := Lib.hid (RowO.makeRef w n (by unfold maxLen; omega))
  go_enter Tryz.func62, Tryz.ntmps62
  go_wp2
  go_ret
  exact ⟨⟨_, _, rfl, HR.out⟩, by repeat (first | exact Below.refl _ _ | exact hB | refine Below.drew ?_ | refine below_drewN ?_ _ | refine bset ?_ (by simp <;> omega) _ | refine bal ?_ _)⟩
end Go.Proofs.YtannhpadoooedaaGreatDoor

/- exact: what an instruction does to rows (do at []integer.Int). -/
namespace Go.Proofs.YtannhpadoooedaaGreatDoor
open Num
open Go.ChangeShapes Go.WideShapes Go.ChangeAt Go.RowKit
set_option linter.unusedVariables false
set_option linter.unusedSimpArgs false
attribute [local go_sem ↓] Go.wp_at_zero Go.wp_at_succ
theorem opI_div (t a b c x y : Int) : opI ⟨6, t, a, b, c⟩ x y = if x % c = 0 then some (x / c) else none := by simp [opI]
theorem opI_shr (t a b x y : Int) (m : Nat) : opI ⟨8, t, a, b, (m : Int)⟩ x y = if x % 2 ^ m = 0 then some (x / 2 ^ m) else none := by simp [opI]
/-- the registers in a block that may be written -/
structure RegsP (base : Nat) (w : World) (rb : Nat) (g : Grid) : Prop where
  free : Free w rb
  ty : typOf w rb = some 29
  cell : ∀ k, k < g.length → ∃ u, w.cell? ⟨rb, k, none⟩ = some u ∧ PRow base w u (g.getD k [])
theorem RegsP.rebase {base base' rb : Nat} {w : World} {g : Grid} (h : RegsP base w rb g) (hb : base' ≤ base) : RegsP base' w rb g := ⟨h.free, h.ty, fun j hj => by obtain ⟨u, hu, hr⟩ := h.cell j hj; exact ⟨u, hu, hr.rebase hb⟩⟩
theorem RegsP.keep {base rb : Nat} {w w' : World} {g : Grid} (h : RegsP base w rb g) (k : Below w.heap.size w w') : RegsP base w' rb g :=
  ⟨h.free.keep k, typ_keep h.ty k, fun j hj => by obtain ⟨u, hu, hr⟩ := h.cell j hj; exact ⟨u, bkeep k hu, hr.keep lims_int k⟩⟩
/-- one of them is set -/
theorem RegsP.step {base rb nt : Nat} {w : World} {g : Grid} {v : Value} {r : List Int} (h : RegsP base w rb g) (hv : PRow base w v r) (ht : nt < g.length) : RegsP base (w.setCell ⟨rb, nt, none⟩ v) rb (g.set nt r) := by
  have hk : Kp (· ≠ 29) w (w.setCell ⟨rb, nt, none⟩ v) := (Kp.refl _ w).set (fun t ht => by rw [h.ty] at ht; cases ht; exact fun k => k rfl) _
  refine ⟨h.free.set _ _, by rw [typ_set]; exact h.ty, fun k hk' => ?_⟩
  rw [List.length_set] at hk'
  by_cases e : nt = k
  · subst e
    obtain ⟨u, hu, _⟩ := h.cell nt hk'
    refine ⟨v, cell_here hu _, ?_⟩
    have : (g.set nt r).getD nt [] = r := by simp [hk']
    rw [this]
    exact hv.kp lims_int hk (by decide) (by decide)
  · obtain ⟨u, hu, hr⟩ := h.cell k hk'
    refine ⟨u, cell_far hu (fun e2 => e (by cases e2; rfl)) _, ?_⟩
    have : (g.set nt r).getD k [] = g.getD k [] := by simp [List.getElem?_set_ne e]
    rw [this]
    exact hr.kp lims_int hk (by decide) (by decide)
/-- how rows are calculated with -/
def rowsV : Value := .agg #[.func (.func 135) #[] #[], .func (.func 136) #[] #[], .func (.func 138) #[] #[], .func (.func 140) #[] #[], .func (.func 141) #[] #[]]
end Go.Proofs.YtannhpadoooedaaGreatDoor

/- exact: run on rows. -/
namespace Go.Proofs.YtannhpadoooedaaGreatDoor
open Num
open Go.ChangeShapes Go.WideShapes Go.ChangeAt Go.RowKit
set_option linter.unusedVariables false
set_option linter.unusedSimpArgs false
attribute [local go_sem ↓] Go.wp_at_zero Go.wp_at_succ
/-- a function value that is told of each instruction's row, and goes on -/
def FnTR (F : Nat) (caps : Array Value) : Prop :=
  ∀ W v r (k : Int), PRow 0 W v r → Calls Tryz.prog F (#[.int .i64 k, v] ++ caps) W fun e w' => e = .returned (.bool true) ∧ Below W.heap.size W w'
/-- what run answers, on rows -/
def RunRPost (code : List Ins) (g : Grid) (rb : Nat) (w : World) (e : Ending) (w' : World) : Prop :=
  ((∃ (m : Nat) (h : Grid), m < code.length ∧ after code g m = some h ∧ after code g (m + 1) = none ∧ e = .returned (.int .i64 m)) ∨
   (∃ h, after code g code.length = some h ∧ e = .returned (.int .i64 (-1)) ∧ RegsP 0 w' rb h)) ∧ Out (fun k => k = rb) w w'
end Go.Proofs.YtannhpadoooedaaGreatDoor

/- exact: laid: the registers over a grid. -/
namespace Go.Proofs.YtannhpadoooedaaGreatDoor
open Num
open Go.ChangeShapes Go.WideShapes Go.ChangeAt Go.RowKit
set_option linter.unusedVariables false
set_option linter.unusedSimpArgs false
attribute [local go_sem ↓] Go.wp_at_zero Go.wp_at_succ
theorem typ_out {X : Nat → Prop} {a b : World} {g : Nat} {t : TypeId} (h : typOf a g = some t) (ho : Out X a b) (hx : ¬ X g) : typOf b g = some t := by
  rw [typ_of_block (w := a) (ho.block g (typ_lt h) hx)]; exact h
/-- registers, of which the first k are laid -/
def upG (S : Grid) (k : Nat) : Grid := S.take k ++ List.replicate (S.length - k) []
theorem upG_len {S : Grid} {k : Nat} (h : k ≤ S.length) : (upG S k).length = S.length := by simp [upG]; omega
theorem upG_all (S : Grid) : upG S S.length = S := by simp [upG]
theorem upG_set {S : Grid} {k : Nat} (h : k < S.length) : (upG S k).set k (S.getD k []) = upG S (k + 1) := by
  unfold upG
  apply List.ext_getElem?
  intro j
  rw [List.getElem?_set]
  have hl : (S.take k ++ List.replicate (S.length - k) ([] : List Int)).length = S.length := by simp; omega
  have hgk : S.getD k [] = S[k] := by simp [h]
  by_cases e : k = j
  · subst e
    rw [if_pos rfl, if_pos (by rw [hl]; exact h), List.getElem?_append_left (by simp; omega), List.getElem?_take_of_lt (by omega), hgk]
    exact (List.getElem?_eq_getElem h).symm
  · rw [if_neg e]
    by_cases e2 : j < k
    · rw [List.getElem?_append_left (by simp; omega), List.getElem?_append_left (by simp; omega), List.getElem?_take_of_lt e2, List.getElem?_take_of_lt (by omega)]
    · rw [List.getElem?_append_right (by simp; omega), List.getElem?_append_right (by simp; omega)]
      simp only [List.length_take, List.getElem?_replicate]
      have h1 : min k S.length = k := by omega
      have h2 : min (k + 1) S.length = k + 1 := by omega
      rw [h1, h2]
      by_cases e3 : j < S.length
      · rw [if_pos (by omega), if_pos (by omega)]
      · rw [if_neg (by omega), if_neg (by omega)]
theorem startG_lo {g : Grid} {R m k : Nat} (h : k < g.length) : (startG g R m).getD k [] = g.getD k [] := by
  unfold startG; simp [List.getD_eq_getElem?_getD, List.getElem?_append_left h]
theorem startG_hi {g : Grid} {R m k : Nat} (h : g.length ≤ k) (h2 : k < R) : (startG g R m).getD k [] = List.replicate m 0 := by
  unfold startG; rw [List.getD_eq_getElem?_getD, List.getElem?_append_right h, List.getElem?_replicate, if_pos (by omega)]; rfl
/-- one register is set, to a row in a new block -/
theorem RegsP.put {w W : World} {base rb k : Nat} {G : Grid} {u : Value} {r : List Int} (h : RegsP base w rb G) (ho : Out (fun q => q = rb ∨ q = w.heap.size) w W) (hf : Free W rb) (ht : typOf W rb = some 29)
    (hc : ∀ j, j ≠ k → ∀ v, w.cell? ⟨rb, j, none⟩ = some v → W.cell? ⟨rb, j, none⟩ = some v) (hk : W.cell? ⟨rb, k, none⟩ = some u) (hu : PRow base W u r) : RegsP base W rb (G.set k r) := by
  have hkp : Kp (· ≠ 29) w W := Kp.out ho (fun q t hq ht' hs => by
    rcases hq with rfl | rfl
    · rw [h.ty] at ht'; exact hs (Option.some.inj ht').symm
    · exact absurd (typ_lt ht') (by omega))
  refine ⟨hf, ht, fun j hj => ?_⟩
  rw [List.length_set] at hj
  by_cases e : k = j
  · subst e
    exact ⟨u, hk, by rw [show (G.set k r).getD k [] = r by simp [hj]]; exact hu⟩
  · obtain ⟨v, hv, hr⟩ := h.cell j hj
    exact ⟨v, hc j (Ne.symm e) v hv, by rw [show (G.set k r).getD j [] = G.getD j [] by simp [List.getElem?_set_ne e]]; exact hr.kp lims_int hkp (by decide) (by decide)⟩
/-- what laid answers -/
def LaidPost (ins regs : Int) (code : List Ins) (outs : List Int) (g : Grid) (w : World) (e : Ending) (w' : World) : Prop :=
  ((¬ ProgOk ins regs code outs ∧ e = .returned (.tuple #[.slice none 0 0, .int .i64 80])) ∨
   (ProgOk ins regs code outs ∧ ¬ FitsG ins g ∧ e = .returned (.tuple #[.slice none 0 0, .int .i64 5])) ∨
   (ProgOk ins regs code outs ∧ FitsG ins g ∧ ∃ rb, w.heap.size ≤ rb ∧ e = .returned (.tuple #[.slice (some ⟨rb, 0, none⟩) regs.toNat regs.toNat, .int .i64 0]) ∧ RegsP w.heap.size w' rb (startG g regs.toNat (g.getD 0 []).length))) ∧ Below w.heap.size w w'
end Go.Proofs.YtannhpadoooedaaGreatDoor

/- vm's laws: works. -/
namespace Go.Proofs.YtannhpadoooedaaGreatDoor
open Num
open Go.ChangeShapes Go.WideShapes Go.ChangeAt Go.RowKit
set_option linter.unusedVariables false
set_option linter.unusedSimpArgs false
theorem bdG_i64 {g : Grid} (h : ∀ k, k < g.length → ∀ j, j < (g.getD k []).length → I64 ((g.getD k []).getD j 0)) : BdG 64 g := by
  intro i j
  by_cases hi : i < g.length
  · by_cases hj : j < (g.getD i []).length
    · have := h i hi j hj
      unfold I64 at this; unfold Bd; omega
    · rw [List.getD_eq_getElem?_getD (l := g.getD i []), List.getElem?_eq_none (by omega)]; exact bd_zero
  · rw [List.getD_eq_getElem?_getD (l := g), List.getElem?_eq_none (by omega)]
    simp [bd_zero]
end Go.Proofs.YtannhpadoooedaaGreatDoor

/- vm's laws: works answers true. -/
namespace Go.Proofs.YtannhpadoooedaaGreatDoor
open Num
open Go.ChangeShapes Go.WideShapes Go.ChangeAt Go.RowKit
set_option linter.unusedVariables false
set_option linter.unusedSimpArgs false
end Go.Proofs.YtannhpadoooedaaGreatDoor

