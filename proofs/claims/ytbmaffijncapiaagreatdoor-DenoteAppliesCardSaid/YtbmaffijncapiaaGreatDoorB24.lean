/- Texts of this seat, laid together: RpB, RxD, RxE, RxF, Rnj, DnH, DnI, DwA, Vo, Wo, Wi, Vp. What each theorem proves, and under which conditions, its statement says. -/
import Derived.Test.YtbmaffijncapiaaGreatDoorB23
import Derived.Lib.SmallJoins
import Derived.Deep.Slices
import Derived.Deep.Matrix
import Derived.Deep.Fields
import Derived.ChangeSame
import Derived.DataShut
import Derived.SizedLaws
set_option maxRecDepth 100000
set_option maxHeartbeats 32000000
set_option linter.unusedVariables false
set_option linter.unusedSimpArgs false
namespace Go.Proofs.YtbmaffijncapiaaGreatDoor
open Go.ChangeShapes Go.WideShapes Go.ChangeAt Go.RowKit
def RCheckP (ins regs : Int) (code : List Ins) (outs : List Int) (w : World) (e : Ending) (w' : World) : Prop := ∃ (r : Int) (b : Bool), e = .returned (.tuple #[.int .i64 r, .bool b]) ∧ (b = false ↔ ProgOk ins regs code outs) ∧ Below w.heap.size w w'
def RightP (ins regs : Int) (code : List Ins) (outs : List Int) (w : World) (e : Ending) (w' : World) : Prop := ∃ b : Bool, e = .returned (.bool b) ∧ (b = true ↔ ProgOk ins regs code outs) ∧ Below w.heap.size w w'
theorem rck_no {ins regs r : Int} {code : List Ins} {outs : List Int} {w w' : World} (h : ¬ ProgOk ins regs code outs) (hb : Below w.heap.size w w') : RCheckP ins regs code outs w (.returned (.tuple #[.int .i64 r, .bool true])) w' := ⟨_, _, rfl, ⟨(fun k => by cases k), fun k => absurd k h⟩, hb⟩
theorem rck_yes {ins regs r : Int} {code : List Ins} {outs : List Int} {w w' : World} (h : ProgOk ins regs code outs) (hb : Below w.heap.size w w') : RCheckP ins regs code outs w (.returned (.tuple #[.int .i64 r, .bool false])) w' := ⟨_, _, rfl, ⟨fun _ => h, fun _ => rfl⟩, hb⟩
theorem rri_no {ins regs : Int} {code : List Ins} {outs : List Int} {w w' : World} (h : ¬ ProgOk ins regs code outs) (hb : Below w.heap.size w w') : RightP ins regs code outs w (.returned (.bool false)) w' := ⟨_, rfl, ⟨(fun k => by cases k), fun k => absurd k h⟩, hb⟩
theorem rri_yes {ins regs : Int} {code : List Ins} {outs : List Int} {w w' : World} (h : ProgOk ins regs code outs) (hb : Below w.heap.size w w') : RightP ins regs code outs w (.returned (.bool true)) w' := ⟨_, rfl, ⟨fun _ => h, fun _ => rfl⟩, hb⟩
theorem rcheck_c (ins regs : Int) (ca oa : Option Addr) (cc oc : Nat) (code : List Ins) (outs : List Int) (w : World) (hc : InsV w ca cc code) (ho : IntsV w oa oc outs) :
 Calls Tryz.prog 193 #[.agg #[.int .i64 ins, .int .i64 regs, .slice ca code.length cc, .slice oa outs.length oc]] w (RCheckP ins regs code outs w) := by
 have hB := Below.refl w.heap.size w
 by_cases h1 : ins < 1
 · have HM := hZ (show ¬ ProgOk ins regs code outs from fun k => by have := k.i1; omega)
   go_enter Tryz.func193, Tryz.ntmps193
   go_wp2
   go_ret2
   refine rck_no HM.out ?_
   repeat exact bZ
 by_cases h2 : regs < ins
 · have HM := hZ (show ¬ ProgOk ins regs code outs from fun k => by have := k.i2; omega)
   go_enter Tryz.func193, Tryz.ntmps193
   go_wp2
   go_ret2
   refine rck_no HM.out ?_
   repeat exact bZ
 by_cases h3 : 128 < regs
 · have HM := hZ (show ¬ ProgOk ins regs code outs from fun k => by have := k.r1; omega)
   go_enter Tryz.func193, Tryz.ntmps193
   go_wp2
   go_ret2
   refine rck_no HM.out ?_
   repeat exact bZ
 by_cases h4 : (16384 : Int) < (code.length : Int)
 · have HM := hZ (show ¬ ProgOk ins regs code outs from fun k => by have := k.c1; omega)
   go_enter Tryz.func193, Tryz.ntmps193
   go_wp2
   go_ret2
   refine rck_no HM.out ?_
   repeat exact bZ
 by_cases h5 : (outs.length : Int) < 1
 · have HM := hZ (show ¬ ProgOk ins regs code outs from fun k => by have := k.o1; omega)
   go_enter Tryz.func193, Tryz.ntmps193
   go_wp2
   go_ret2
   refine rck_no HM.out ?_
   repeat exact bZ
 by_cases h6 : (128 : Int) < (outs.length : Int)
 · have HM := hZ (show ¬ ProgOk ins regs code outs from fun k => by have := k.o2; omega)
   go_enter Tryz.func193, Tryz.ntmps193
   go_wp2
   go_ret2
   refine rck_no HM.out ?_
   repeat exact bZ
 have HH := hZ (And.intro (show 1 ≤ ins ∧ ins ≤ regs ∧ regs ≤ 128 by omega) (show code.length ≤ 16384 ∧ 1 ≤ outs.length ∧ outs.length ≤ 128 by omega))
 go_enter Tryz.func193, Tryz.ntmps193
 go_wp2
 refine wp_name fun w0 hW0 => ?_
 have p0 : w0.cell? ⟨w.heap.size, 0, none⟩ = some (.int .i64 ins) := bkn hW0
 have zp0 := cell_lt p0
 have p1 : w0.cell? ⟨w.heap.size, 1, none⟩ = some (.int .i64 regs) := bkn hW0
 have p2 : w0.cell? ⟨w.heap.size, 2, none⟩ = some (.slice ca code.length cc) := bkn hW0
 have p3 : w0.cell? ⟨w.heap.size, 3, none⟩ = some (.slice oa outs.length oc) := bkn hW0
 have hB : Below w.heap.size w w0 := by rw [hW0]; repeat (first|exact bzR _ _|exact hB|refine bzD ?_|refine bzN ?_|refine bzS ?_|refine bzA ?_)
 have hz := hB.size
 clear hW0
 clear h1 h2 h3 h4 h5 h6
 have HF := hZ (show ∀ W, Below w0.heap.size w0 W → W.cell? ⟨w.heap.size, 1, none⟩ = some (.int .i64 regs) ∧ W.cell? ⟨w.heap.size, 2, none⟩ = some (.slice ca code.length cc) ∧ W.cell? ⟨w.heap.size, 3, none⟩ = some (.slice oa outs.length oc) from fun W h => ⟨bkeep h p1, bkeep h p2, bkeep h p3⟩)
 clear p0 p1 p2 p3
 go_loopw [4] (fun x wr => ∃ k : Nat, k ≤ outs.length ∧ x = .int .i64 k ∧ Below w0.heap.size w0 wr ∧ Hid (∀ j, j < k → 0 ≤ outs.getD j 0 ∧ outs.getD j 0 < regs)) (fun x _ => outs.length - (intOf x).toNat)
 case atStart => exact ⟨0, Nat.zero_le _, rfl, Below.refl _ _, hZ (fun j hj => by omega)⟩
 case round =>
  obtain ⟨k, hk, rfl, hBr, hall⟩ := hrel
  have hk8 : outs.length ≤ 128 := HH.out.2.2.2
  obtain ⟨p1, p2, p3⟩ := HF.out wr hBr
  have zp := cell_lt p1
  have hBB := bthen hB hBr
  by_cases hlt : k < outs.length
  · have hltI : (k : Int) < (outs.length : Int) := by omega
    rcases ho.keep hBB with h0 | ⟨b, off, rfl, hcap, hcell⟩
    · rw [h0] at hlt; simp at hlt
    have q0 := hcell k hlt
    have HK := hZ (show ∀ v, v = outs.getD k 0 → ¬ (0 ≤ v ∧ v < regs) → ¬ ProgOk ins regs code outs from fun v hv h hp => h (by rw [hv]; exact hp.os k hlt))
    have HS := hZ (show ∀ v, v = outs.getD k 0 → (0 ≤ v ∧ v < regs) → ∀ j, j < k + 1 → 0 ≤ outs.getD j 0 ∧ outs.getD j 0 < regs from fun v hv h j hj => by
     by_cases e : j = k
     · subst e; rw [← hv]; exact h
     · exact hall.out j (by omega))
    obtain ⟨r, hr⟩ : ∃ r, r = outs.getD k 0 := ⟨_, rfl⟩
    rw [← hr] at q0
    have HR := hZ hr
    clear hr hcell
    by_cases r1 : r < 0
    · have HM := hZ (HK.out r HR.out (by omega))
      have hq1 : decide (r < 0) = true := by simp; omega
      go_wp2
      go_quiet (fail)
      go_wp2
      go_ret2
      refine rck_no HM.out ?_
      repeat exact bZ
    by_cases r2 : regs ≤ r
    · have HM := hZ (HK.out r HR.out (by omega))
      have hq1 : decide (r < 0) = false := by simp; omega
      have hq2 : decide (regs ≤ r) = true := by simp; omega
      go_wp2
      go_quiet (fail)
      go_wp2
      go_ret2
      refine rck_no HM.out ?_
      repeat exact bZ
    have hq1 : decide (r < 0) = false := by simp; omega
    have hq2 : decide (regs ≤ r) = false := by simp; omega
    go_wp2
    go_quiet (fail)
    go_wp2
    exact ⟨⟨k + 1, by omega, by go_num, bZ, hZ (HS.out r HR.out (by omega))⟩, by simp [intOf]; omega⟩
  · obtain rfl : k = outs.length := by omega
    have HO := hZ hall.out
    clear hall hlt hk
    have hBR := hBr
    go_wp2
    clear p1 p2 p3
    go_loopw [5] (fun x wi => ∃ k : Nat, k ≤ code.length ∧ x = .int .i64 k ∧ Below w0.heap.size w0 wi ∧ Hid (∀ j, j < k → mayB (code.getD j default).op (code.getD j default).to (code.getD j default).a (code.getD j default).b (code.getD j default).c regs = true)) (fun x _ => code.length - (intOf x).toNat)
    case atStart => exact ⟨0, Nat.zero_le _, rfl, hBR, hZ (fun j hj => by omega)⟩
    case round =>
     rename World => wi
     obtain ⟨k, hk, rfl, hBi, hall⟩ := hrel
     have hk9 : code.length ≤ 16384 := HH.out.2.1
     have hBB := bthen hB hBi
     obtain ⟨p1, p2, p3⟩ := HF.out wi hBi
     have zp := cell_lt p1
     by_cases hlt : k < code.length
     · have hltI : (k : Int) < (code.length : Int) := by omega
       rcases hc.keep hBB with h0 | ⟨b, off, rfl, hcap, hcell⟩
       · rw [h0] at hlt; simp at hlt
       obtain ⟨q0, q1, q2, q3, q4⟩ := hcell k hlt
       have HK := hZ (show ∀ i : Ins, i = code.getD k default → mayB i.op i.to i.a i.b i.c regs = false → ¬ ProgOk ins regs code outs from fun i hi h hp => by
        have := hp.cs k hlt
        rw [← hi, h] at this; cases this)
       have HS := hZ (show ∀ i : Ins, i = code.getD k default → mayB i.op i.to i.a i.b i.c regs = true → ∀ j, j < k + 1 → mayB (code.getD j default).op (code.getD j default).to (code.getD j default).a (code.getD j default).b (code.getD j default).c regs = true from fun i hi h j hj => by
        by_cases e : j = k
        · subst e; rw [← hi]; exact h
        · exact hall.out j (by omega))
       obtain ⟨i, hi⟩ : ∃ i, i = code.getD k default := ⟨_, rfl⟩
       rw [← hi] at q0 q1 q2 q3 q4
       have HI := hZ hi
       clear hi hcell
       obtain ⟨op, t, ia, ib, ic⟩ := i
       dsimp only at q0 q1 q2 q3 q4
       have hmc := fun W => rmay_c op t ia ib ic regs W
       have hBc := Below.refl wi.heap.size wi
       have HQ := hZ (show ∀ W, Below wi.heap.size wi W → W.cell? ⟨w.heap.size, 1, none⟩ = some (.int .i64 regs) ∧ W.cell? ⟨w.heap.size, 2, none⟩ = some (.slice (some ⟨b, off, none⟩) code.length cc) ∧ W.cell? ⟨b, off + k * 5, none⟩ = some (.int .i64 op) ∧ W.cell? ⟨b, off + k * 5 + 1, none⟩ = some (.int .i64 t) ∧ W.cell? ⟨b, off + k * 5 + 2, none⟩ = some (.int .i64 ia) ∧ W.cell? ⟨b, off + k * 5 + 3, none⟩ = some (.int .i64 ib) ∧ W.cell? ⟨b, off + k * 5 + 4, none⟩ = some (.int .i64 ic) from fun W h => ⟨bkeep h p1, bkeep h p2, bkeep h q0, bkeep h q1, bkeep h q2, bkeep h q3, bkeep h q4⟩)
       obtain ⟨mb, hmb⟩ : ∃ mb, mayB op t ia ib ic regs = mb := ⟨_, rfl⟩
       rw [hmb] at hmc
       have HMB := hZ hmb
       clear hmb
       go_wp2
       go_region_held3 (fun w' => w'.cell? ⟨w.heap.size, 1, none⟩ = some (.int .i64 regs) ∧ w'.cell? ⟨w.heap.size, 2, none⟩ = some (.slice (some ⟨b, off, none⟩) code.length cc) ∧ w'.cell? ⟨b, off + k * 5, none⟩ = some (.int .i64 op) ∧ w'.cell? ⟨b, off + k * 5 + 1, none⟩ = some (.int .i64 t) ∧ w'.cell? ⟨b, off + k * 5 + 2, none⟩ = some (.int .i64 ia) ∧ w'.cell? ⟨b, off + k * 5 + 3, none⟩ = some (.int .i64 ib) ∧ w'.cell? ⟨b, off + k * 5 + 4, none⟩ = some (.int .i64 ic))
        (first | (refine HQ.out _ ?_; (repeat (first|exact bzR _ _|exact hBc|refine bzD ?_|refine bzN ?_|refine bzS ?_|refine bzA ?_)); done) | fail)
        (first
         | (go_at_call 253; refine (hmc _).mono ?_; rintro e w5 ⟨rfl, hb5⟩; have hB5 : Below wi.heap.size wi w5 := bthen bZ hb5; clear hBc; have hBc := hB5)
         | fail)
       cases mb with
       | true =>
        have HSM := hZ (HS.out _ HI.out HMB.out)
        go_wp2
        exact ⟨⟨k + 1, by omega, by go_num, bthen hBi hBc, HSM⟩, by simp [intOf]; omega⟩
       | false =>
        have HM := hZ (HK.out _ HI.out HMB.out)
        have hBz := bthen hBB hBc
        go_wp2
        go_ret2
        refine rck_no HM.out ?_
        repeat exact bZ
     · obtain rfl : k = code.length := by omega
       have HM := hZ (show ProgOk ins regs code outs from ⟨HH.out.1.1, HH.out.1.2.1, HH.out.1.2.2, HH.out.2.1, HH.out.2.2.1, HH.out.2.2.2, HO.out, hall.out⟩)
       go_wp2
       go_ret2
       exact rck_yes HM.out hBB
theorem rright_c (ins regs : Int) (ca oa : Option Addr) (cc oc : Nat) (code : List Ins) (outs : List Int) (w : World) (hc : InsV w ca cc code) (ho : IntsV w oa oc outs) :
 Calls Tryz.prog 99 #[.agg #[.int .i64 ins, .int .i64 regs, .slice ca code.length cc, .slice oa outs.length oc]] w (RightP ins regs code outs w) := by
 have kc := fun W (h : Below w.heap.size w W) => rcheck_c ins regs ca oa cc oc code outs W (hc.keep h) (ho.keep h)
 clear hc ho
 have hB := Below.refl w.heap.size w
 go_enter Tryz.func99, Tryz.ntmps99
 go_wp2_with fail
 refine (kc _ bZ).mono ?_
 rintro e w1 ⟨r, b, rfl, hb, hb1⟩
 have HBI := hZ hb
 have hB1 : Below w.heap.size w w1 := bthen bZ hb1
 clear kc hb
 cases b with
 | true =>
  have HM := hZ (show ¬ ProgOk ins regs code outs from fun h => by have := HBI.out.2 h; cases this)
  go_wp2
  go_ret
  exact rri_no HM.out hB1
 | false =>
  have HM := hZ (HBI.out.1 rfl)
  go_wp2
  go_ret
  exact rri_yes HM.out hB1
section
open Num
attribute [local go_sem ↓] Go.wp_at_zero Go.wp_at_succ
def RunRF (code : List Ins) (outs : List Int) (g : GridF) (base : Nat) (w' : World) (vs vo : Value) (b : Bool) : Prop := ∃ m, ToldF code g m ∧ SetR base w' vs ((List.range m).map (toldQ code g)) ∧ ((∃ h, afterF code g code.length = some h ∧ b = true ∧ SetR base w' vo (outsF outs h)) ∨ (afterF code g code.length = none ∧ b = false ∧ vo = .slice none 0 0))
theorem RunRP.form {code : List Ins} {outs : List Int} {g : GridF} {w w' : World} {e : Ending} (h : RunRP code outs g w e w') : (∃ vs vo b, e = .returned (.tuple #[vs, vo, .bool b]) ∧ RunRF code outs g w.heap.size w' vs vo b) ∧ Below w.heap.size w w' := by
 obtain ⟨⟨vs, m, ht, hs, hcase⟩, hb⟩ := h
 rcases hcase with ⟨h, vo, h1, h2, h3⟩ | ⟨h1, h2⟩
 · exact ⟨⟨vs, vo, true, h2, m, ht, hs, .inl ⟨h, h1, rfl, h3⟩⟩, hb⟩
 · exact ⟨⟨vs, _, false, h2, m, ht, hs, .inr ⟨h1, rfl, rfl⟩⟩, hb⟩
theorem right_yesR {ins regs : Int} {ca oa : Option Addr} {cc oc : Nat} {code : List Ins} {outs : List Int} {w : World} (hc : InsV w ca cc code) (ho : IntsV w oa oc outs) (h : ProgOk ins regs code outs) : Calls Tryz.prog 99 #[.agg #[.int .i64 ins, .int .i64 regs, .slice ca code.length cc, .slice oa outs.length oc]] w fun e w' => e = .returned (.bool true) ∧ Below w.heap.size w w' :=
 (rright_c ins regs ca oa cc oc code outs w hc ho).mono fun e w' k => by
  obtain ⟨b, h1, h2, h3⟩ := k
  rw [(h2.2 h)] at h1
  exact ⟨h1, h3⟩
theorem right_noR {ins regs : Int} {ca oa : Option Addr} {cc oc : Nat} {code : List Ins} {outs : List Int} {w : World} (hc : InsV w ca cc code) (ho : IntsV w oa oc outs) (h : ¬ ProgOk ins regs code outs) : Calls Tryz.prog 99 #[.agg #[.int .i64 ins, .int .i64 regs, .slice ca code.length cc, .slice oa outs.length oc]] w fun e w' => e = .returned (.bool false) ∧ Below w.heap.size w w' :=
 (rright_c ins regs ca oa cc oc code outs w hc ho).mono fun e w' k => by
  obtain ⟨b, h1, h2, h3⟩ := k
  have : b = false := by cases b; rfl; exact absurd (h2.1 rfl) h
  rw [this] at h1
  exact ⟨h1, h3⟩
end

def GrewX (T S S' : Nat → Prop) (X : World) : Prop := ∀ q, S' q → S q ∨ T q ∨ X.heap.size ≤ q
theorem GrewX.same (T S : Nat → Prop) (X : World) : GrewX T S S X := fun _ h => .inl h
def IterX (P : Program) (gf : Nat) (lb : Array Value) (A : Nat → Array Value → World → Prop) (m : Nat) (Xs : Array Value → Nat → Prop) (n0 : Nat) (S0 : Nat → Prop) (G : World → Prop) : Prop :=
 ∀ (l : Nat) (J Jx : Nat → (Nat → Prop) → World → Prop) (W : World), G W → (∀ k S X Y, J k S X → Clo n0 S X Y → KeepsOthers X Y → J k S Y) → (∀ k S X Y, Jx k S X → Clo n0 S X Y → KeepsOthers X Y → Jx k S Y) →
  (∀ k S X, J k S X → Soil S X) →
  (∀ k args S X, k < m → J k S X → A k args X → (∀ q, Xs args q → ¬ S q) → YieldAt Fence.wide 7 P l args X fun e Y => (e = .returned (.bool true) ∧ ∃ S', GrewX (Xs args) S S' X ∧ J (k + 1) S' Y ∧ OutT (fun q => S q ∨ Xs args q) X Y) ∨ (e = .returned (.bool false) ∧ ∃ S', Jx (k + 1) S' Y)) →
  J 0 S0 W → CallsIn Fence.wide 8 P gf (#[.func (.yield l) #[] #[]] ++ lb) W fun e Y => (∃ v, e = .returned v) ∧ ((∃ S, J m S Y) ∨ ∃ k S, k ≤ m ∧ Jx k S Y)
def postX (X0 T S : Nat → Prop) (I : Nat → (Nat → Prop) → World → Prop) (Ix : Code → Nat → (Nat → Prop) → World → Prop) (k : Nat) (X : World) : Exit → Act → World → Prop
 | .normal, _, Y => OutT X0 X Y ∧ ∃ S', GrewX T S S' X ∧ I k S' Y
 | .ret, _, Y => OutT X0 X Y ∧ ∃ S', Ix .ret k S' Y
 | .exit id, _, Y => OutT X0 X Y ∧ ∃ S', Ix (.exit id) k S' Y
 | .goto t, _, Y => OutT X0 X Y ∧ ∃ S', Ix (.goto t) k S' Y
 | .panic _, _, _ => False
 | .outgrown, _, _ => False
theorem wp_rangeX {P : Program} {g : Operand} {ps : Array Tmp} {assign body : Code} {Q : Exit → Act → World → Prop} {a : Act} {w : World}
 {gf : Nat} {lb : Array Value} (hg : a.eval g = .func (.func gf) #[] lb) (eg : ∀ args w, (callFunc gf args).run P w = .ok (.enter gf args) w)
 {A : Nat → Array Value → World → Prop} {m n0 : Nat} {Xs : Array Value → Nat → Prop} {S0 : Nat → Prop} {G : World → Prop} (hseq : IterX P gf lb A m Xs n0 S0 G)
 (hn0 : n0 ≤ w.heap.size) (hG : ∀ W, Below w.heap.size w W → G W) (hps : ∀ k args X, A k args X → args.size = ps.size)
 (I : Nat → (Nat → Prop) → World → Prop) (Ix : Code → Nat → (Nat → Prop) → World → Prop) (hI : ∀ k S X Y, I k S X → Clo n0 S X Y → I k S Y) (hIx : ∀ c k S X Y, Ix c k S X → Clo n0 S X Y → Ix c k S Y)
 (hS : ∀ k S X, I k S X → Soil S X) (hSx : ∀ c k S X, Ix c k S X → Soil S X) (h0 : I 0 S0 w)
 (Ax : Array Value → Nat → Array Value → (Nat → Prop) → Act → World → Prop) (hAx : ∀ k args S a' (X : World) (l : Nat) (o o' : Obj), w.heap.size ≤ l → X.heap[l]? = some o → o.isCells = false → Ax a.tmps k args S a' X → Ax a.tmps k args S a' (X.putObj l o'))
 (hXs : ∀ k args X q, A k args X → Xs args q → ∃ o, X.heap[q]? = some o ∧ o.isCells = true)
 (hassign : ∀ (l k : Nat) (args : Array Value) (S : Nat → Prop) (X : World) (K : Act → World → Prop), k < m → I k S X → A k args X → (∀ q, Xs args q → ¬ S q) → (∀ a' Y, Below X.heap.size X Y → I k S Y → Ax a.tmps k args S a' Y → K a' Y) →
  assign.wpIn (Fence.wide.inRound l) 7 P (Exit.then K (fun _ _ _ => False)) { tmps := (ps.zip args).foldl (fun t (p, v) => t.setIfInBounds p v) a.tmps, defers := [] } X)
 (hbody : ∀ (l k : Nat) (args : Array Value) (S : Nat → Prop) (a' : Act) (X : World), k < m → I k S X → Ax a.tmps k args S a' X → body.wpIn (Fence.wide.inRound l) 7 P (postX (fun q => S q ∨ Xs args q) (Xs args) S I Ix (k + 1) X) a' X)
 (hdone : ∀ (D : Nat) (S : Nat → Prop) (Y : World), w.heap.size ≤ D → I m S Y → Y.heap[D]? = some (.deferred (some [])) → Q .normal { a with defers := { target := .collected D, args := #[] } :: a.defers } Y)
 (hstop : ∀ (D : Nat) (c : Code) (k : Nat) (S : Nat → Prop) (Y : World), w.heap.size ≤ D → k ≤ m → Ix c k S Y → Y.heap[D]? = some (.deferred (some [])) → c.wp P Q { a with defers := { target := .collected D, args := #[] } :: a.defers } Y) :
 (Code.rangeFunc g ps assign body).wp P Q a w := by
 refine (wpIn_wide (n := 9)).1 (wpIn_rangeFunc fun fn hfn => ?_)
 let R : LoopState → Option Code → Loop := fun st pe => { state := st, pending := pe, fn, tmps := a.tmps, params := ps, assign, body, defers := w.heap.size }
 generalize hl : w.heap.size + 1 = l
 have hlw : w.heap.size ≤ l := by omega
 let V : World := (w.alloc (.deferred (some []))).alloc (.loop (R .ready none))
 have rec0 : V.heap[l]? = some (.loop (R .ready none)) := by
  have h := World.alloc_heap_new (w.alloc (.deferred (some []))) (.loop (R .ready none))
  rw [World.size_alloc, hl] at h
  exact h
 have put0 : V.heap[w.heap.size]? = some (.deferred (some [])) := (Below.heap_alloc _ _ _ (by simp)).trans (World.alloc_heap_new w _)
 have bV : Below w.heap.size w V := bal (bal (Below.refl _ _) _) _
 -- the loop's record is set: nothing of the body's, no limbs
 have cP : ∀ (S : Nat → Prop) (X : World) (o o' : Obj), Soil S X → X.heap[l]? = some o → o.isCells = false → Clo n0 S X (X.putObj l o') := fun S X o o' hs ho hc => by
  refine ⟨rfl, rfl, rfl, by simp [World.putObj], fun q hq h => World.putObj_heap_other (fun e => ?_)⟩
  subst e
  have ht : ∀ t, typOf X q ≠ some t := fun t h => by rw [typ_none ho hc] at h; cases h
  rcases h with h | h | h
  · omega
  · obtain ⟨t, h1, _⟩ := hs q h
    exact ht t h1
  · exact ht _ h
 refine ⟨l, [{ target := .collected w.heap.size, args := #[] }], V, { target := .fn (.func gf) lb, args := #[.func (.yield l) #[] #[]] }, V, gf, #[.func (.yield l) #[] #[]] ++ lb, V, ?_, ?_, fun f' _ => trivial, ?_, fun _ => by omega, ?_⟩
 · have h := run_enterLoop_outer (P := P) (w := w) fn a.tmps ps assign body
   rw [hl] at h
   exact h
 · simp only [resolve, hg]
   simp [go_sem]
 · simp [invoke, go_sem, eg]
 let J : Nat → (Nat → Prop) → World → Prop := fun k S X => I k S X ∧ X.heap[l]? = some (.loop (R .ready none)) ∧ X.heap[w.heap.size]? = some (.deferred (some []))
 let Jx : Nat → (Nat → Prop) → World → Prop := fun k S X => ∃ c, Ix c k S X ∧ X.heap[l]? = some (.loop (R .done (some c))) ∧ X.heap[w.heap.size]? = some (.deferred (some []))
 refine (hseq l J Jx V (hG V bV) ?_ ?_ ?_ ?_ ⟨hI 0 S0 _ _ h0 (.of_below bV), rec0, put0⟩).mono ?_
 · rintro k S X Y ⟨h1, h2, h3⟩ hc hk
   exact ⟨hI k S X Y h1 hc, hk.same _ _ h2 rfl, hk.same _ _ h3 rfl⟩
 · rintro k S X Y ⟨c, h1, h2, h3⟩ hc hk
   exact ⟨c, hIx c k S X Y h1 hc, hk.same _ _ h2 rfl, hk.same _ _ h3 rfl⟩
 · rintro k S X ⟨h1, _⟩
   exact hS k S X h1
 · -- one round
   rintro k args S X hkm ⟨h1, h2, h3⟩ hA hxs
   have nX : ∀ q o, X.heap[q]? = some o → o.isCells = false → ¬ (S q ∨ Xs args q) := fun q o hq ho hx => by
    rcases hx with hx | hx
    · obtain ⟨t, ht, _⟩ := hS k S X h1 q hx
      rw [typ_none hq ho] at ht; cases ht
    · obtain ⟨o', ho', hc⟩ := hXs k args X q hA hx
      rw [hq] at ho'; cases ho'; rw [ho] at hc; cases hc
   have nl : ¬ (S l ∨ Xs args l) := nX _ _ h2 rfl
   have nd : ¬ (S w.heap.size ∨ Xs args w.heap.size) := nX _ _ h3 rfl
   have hy := run_yield (P := P) (args := args) h2 (hps k args X hA)
   refine ⟨fn, _, assign, body, hy, roundIn_of_wpIn hfn (hassign l k args S X _ hkm h1 hA hxs ?_)⟩
   intro a' X1 hb i1 ax
   have hlX : l < X.heap.size := (Array.getElem?_eq_some_iff.1 h2).1
   have l1 : X1.heap[l]? = some (.loop (R .ready none)) := (hb.block _ hlX).trans h2
   have d1 : X1.heap[w.heap.size]? = some (.deferred (some [])) := (hb.block _ (Array.getElem?_eq_some_iff.1 h3).1).trans h3
   have hl1 : l < X1.heap.size := (Array.getElem?_eq_some_iff.1 l1).1
   refine ⟨_, run_beginRound l1 rfl, ?_⟩
   have cb : Clo n0 S X1 (X1.putObj l (.loop { R .ready none with state := .busy })) := cP _ _ _ _ (hS _ _ _ i1) l1 rfl
   have l2 : (X1.putObj l (.loop { R .ready none with state := .busy })).heap[l]? = some (.loop { R .ready none with state := .busy }) := World.putObj_heap_same hl1
   have o2 : ∀ b, b ≠ l → (X1.putObj l (.loop { R .ready none with state := .busy })).heap[b]? = X1.heap[b]? := fun b hb => World.putObj_heap_other hb
   have s2 : (X1.putObj l (.loop { R .ready none with state := .busy })).heap.size = X1.heap.size := by simp [World.putObj]
   refine wpIn_mono (hbody l k args S a' _ hkm (hI k S _ _ i1 cb) (hAx k args S a' _ _ _ _ hlw l1 rfl ax)) ?_
   have fin : ∀ (jump : Option Code) (Y : World) (S' : Nat → Prop), OutT (fun q => S q ∨ Xs args q) (X1.putObj l (.loop { R .ready none with state := .busy })) Y → Soil S' Y →
    (Instr.endRound l jump).run P Y = .ok (.bool jump.isNone) (Y.putObj l (.loop (R (if jump.isNone then .ready else .done) jump))) ∧ Clo n0 S' Y (Y.putObj l (.loop (R (if jump.isNone then .ready else .done) jump))) ∧
    (Y.putObj l (.loop (R (if jump.isNone then .ready else .done) jump))).heap[l]? = some (.loop (R (if jump.isNone then .ready else .done) jump)) ∧ (Y.putObj l (.loop (R (if jump.isNone then .ready else .done) jump))).heap[w.heap.size]? = some (.deferred (some [])) := fun jump Y S' hoT hs => by
    have ho := hoT.1
    have lY : Y.heap[l]? = some (.loop { R .ready none with state := .busy }) := (ho.block _ (by rw [s2]; exact hl1) nl).trans l2
    refine ⟨run_endRound (P := P) jump lY, cP _ _ _ _ hs lY rfl, World.putObj_heap_same (Array.getElem?_eq_some_iff.1 lY).1, ?_⟩
    rw [World.putObj_heap_other (by omega), ho.block _ (by rw [s2]; exact (Array.getElem?_eq_some_iff.1 d1).1) nd, o2 _ (by omega), d1]
   rintro e a3 Y hp
   cases e with
   | normal =>
    obtain ⟨ho, S', hg', i3⟩ := hp
    obtain ⟨hr, hc, e1, e2⟩ := fin none Y S' ho (hS _ _ _ i3)
    obtain ⟨ho, ht⟩ := ho
    refine ⟨_, _, hr, .inl ⟨rfl, S', fun q hq => (hg' q hq).imp id fun h => h.imp id fun h => Nat.le_trans hb.size (by rw [s2] at h; exact h), ⟨hI _ _ _ _ i3 hc, e1, e2⟩, ⟨ho.os.trans hb.os, ho.tape.trans hb.tape, ho.output.trans hb.output, ?_, fun i hi hx => ?_⟩, fun q hq hqs => ?_⟩⟩
    · have := ho.size; have := hb.size; simp [World.putObj] at *; omega
    · by_cases e : i = l
      · subst e; exact e1.trans h2.symm
      · rw [World.putObj_heap_other e, ho.block _ (by rw [s2]; have := hb.size; omega) hx, o2 _ e, hb.block _ hi]
    · have e : q ≠ l := fun e => nl (e ▸ hq)
      have t1 : typOf (Y.putObj l (.loop (R (if (none : Option Code).isNone then .ready else .done) none))) q = typOf Y q := by unfold typOf; rw [World.putObj_heap_other e]
      have t2 := ht q hq (by rw [s2]; have := hb.size; omega)
      have t3 : typOf (X1.putObj l (.loop { R .ready none with state := .busy })) q = typOf X1 q := by unfold typOf; rw [o2 _ e]
      have t4 : typOf X1 q = typOf X q := by unfold typOf; rw [hb.block _ hqs]
      exact (t1.trans t2).trans (t3.trans t4)
   | ret =>
    obtain ⟨ho, S', i3⟩ := hp
    obtain ⟨hr, hc, e1, e2⟩ := fin (some .ret) Y S' ho (hSx _ _ _ _ i3)
    exact ⟨_, _, hr, .inr ⟨rfl, S', .ret, hIx _ _ _ _ _ i3 hc, e1, e2⟩⟩
   | exit id =>
    obtain ⟨ho, S', i3⟩ := hp
    obtain ⟨hr, hc, e1, e2⟩ := fin (some (.exit id)) Y S' ho (hSx _ _ _ _ i3)
    exact ⟨_, _, hr, .inr ⟨rfl, S', .exit id, hIx _ _ _ _ _ i3 hc, e1, e2⟩⟩
   | goto t =>
    obtain ⟨ho, S', i3⟩ := hp
    obtain ⟨hr, hc, e1, e2⟩ := fin (some (.goto t)) Y S' ho (hSx _ _ _ _ i3)
    exact ⟨_, _, hr, .inr ⟨rfl, S', .goto t, hIx _ _ _ _ _ i3 hc, e1, e2⟩⟩
   | panic ch => exact hp.elim
   | outgrown => exact hp.elim
 · -- behind it
   rintro e Y ⟨⟨v, rfl⟩, h⟩
   rcases h with ⟨S, i1, l1, d1⟩ | ⟨k, S, hk, c, i1, l1, d1⟩
   · refine ⟨none, _, run_endLoop (P := P) l1 (by simp [R]), hdone _ S _ (Nat.le_refl _) (hI _ _ _ _ i1 (cP _ _ _ _ (hS _ _ _ i1) l1 rfl)) ?_⟩
     rw [World.putObj_heap_other (by omega)]; exact d1
   · refine ⟨some c, _, run_endLoop (P := P) l1 (by simp [R]), wpIn_wide.2 (hstop _ c k S _ (Nat.le_refl _) hk (hIx _ _ _ _ _ i1 (cP _ _ _ _ (hSx _ _ _ _ i1) l1 rfl)) ?_)⟩
     rw [World.putObj_heap_other (by omega)]; exact d1
section
open Num
attribute [local go_sem ↓] Go.wp_at_zero Go.wp_at_succ
def AF (n0 : Nat) (T : Nat → List Rat) (k : Nat) (args : Array Value) (X : World) : Prop := ∃ v b base, args = #[.int .i64 (k : Int), v] ∧ n0 ≤ base ∧ PRp base X v (b, T k)
def XsF (args : Array Value) (q : Nat) : Prop := ∃ v, args[1]? = some v ∧ rowBlk v = some q
theorem prp_blk {base b q : Nat} {X : World} {v : Value} {L : List Rat} (h : PRp base X v (b, L)) (hq : rowBlk v = some q) : q = b ∧ base ≤ q ∧ typOf X q = some 79 := by
 obtain ⟨c, rfl, _, hb, hf⟩ := h
 simp [rowBlk] at hq
 subst hq
 exact ⟨rfl, hb, hf.ty⟩
theorem AF.cells {n0 : Nat} {T : Nat → List Rat} {k q : Nat} {args : Array Value} {X : World} (h : AF n0 T k args X) (hq : XsF args q) : ∃ o, X.heap[q]? = some o ∧ o.isCells = true := by
 obtain ⟨v, b, base, rfl, _, hr⟩ := h
 obtain ⟨v', e, hb⟩ := hq
 simp at e
 subst e
 exact typ_cells (prp_blk hr hb).2.2
def YieldsF (l m : Nat) (A : Nat → Array Value → World → Prop) (Xs : Array Value → Nat → Prop) (J Jx : Nat → (Nat → Prop) → World → Prop) : Prop :=
 ∀ k args S X, k < m → J k S X → A k args X → (∀ q, Xs args q → ¬ S q) → YieldAt Fence.wide 3 Tryz.prog l args X fun e Y => (∃ b, e = .returned (.bool b) ∧ ((b = true ∧ ∃ S', GrewX (Xs args) S S' X ∧ J (k + 1) S' Y ∧ OutT (fun q => S q ∨ Xs args q) X Y) ∨ (b = false ∧ ∃ S', Jx (k + 1) S' Y)))
theorem yieldAt_monoF {F : Fence} {m : Nat} {P : Program} {l : Nat} {args : Array Value} {W : World} {R R' : Ending → World → Prop} (h : YieldAt F m P l args W R) (hr : ∀ e w, R e w → R' e w) : YieldAt F m P l args W R' := by
 obtain ⟨fn, tmps, asg, body, hy, hR⟩ := h
 exact ⟨fn, tmps, asg, body, hy, hR.mono hr⟩
theorem OutT.baseF {S X : Nat → Prop} {a b c : World} (k : Below a.heap.size a b) (h : OutT (fun q => S q ∨ X q) b c) (hx : ∀ q, X q → a.heap.size ≤ q) (hS : ∀ q, S q → q < a.heap.size) : OutT S a c := by
 refine ⟨⟨h.1.os.trans k.os, h.1.tape.trans k.tape, h.1.output.trans k.output, Nat.le_trans k.size h.1.size, fun q hq hs => (h.1.block q (Nat.lt_of_lt_of_le hq k.size) fun e => ?_).trans (k.block q hq)⟩, fun q hq hl => ?_⟩
 · rcases e with e | e
   · exact hs e
   · have := hx q e; omega
 · rw [h.2 q (.inl hq) (Nat.lt_of_lt_of_le hl k.size)]
   unfold typOf; rw [k.block q hl]
theorem stepsFq_c (y yb M : Nat) (T : Nat → List Rat) (J Jx : Nat → (Nat → Prop) → World → Prop) (C : World → Prop) (n0 : Nat) (hJ : ∀ k S X Y, J k S X → Clo n0 S X Y → KeepsOthers X Y → J k S Y) (hJS : ∀ k S X, J k S X → Soil S X) (hT : ∀ k, k < M → 0 < (T k).length ∧ (T k).length ≤ 1099511627776)
 (hC : ∀ W, C W → W.cell? ⟨yb, 0, none⟩ = some (.func (.yield y) #[] #[])) (hCn : ∀ W, C W → n0 ≤ W.heap.size) (hY : YieldsF y M (AF n0 T) XsF J Jx) : FnTQ 104 #[.pointer (some ⟨yb, 0, none⟩)] T M J Jx C := by
 intro k S W v hk hj hc hv
 show Calls Tryz.prog 104 #[.int .i64 (k : Int), v, .pointer (some ⟨yb, 0, none⟩)] W _
 have HJ := hZ hJ
 have HJK := hZ hj
 have HS := hZ (hJS k S W hj)
 have HYY := hZ hY
 obtain ⟨hl0, hl⟩ := hT k hk
 have y0 := hC W hc
 have hnW := hCn W hc
 have zy := cell_lt y0
 have kcl := fun W1 (h : Below W.heap.size W W1) => (cloneQ_c v (T k) W1 (hv.1.keep h) hl).mono (R' := fun e w' => ∃ v' b, e = .returned v' ∧ PRp W.heap.size w' v' (b, T k) ∧ Below W.heap.size W1 w') fun e w' ⟨⟨v', h1, h2⟩, h3⟩ => by
  obtain ⟨b, hb⟩ := h2.prp hl0
  exact ⟨v', b, h1, hb.rebase h.size, h3.mono h.size⟩
 obtain ⟨va, vc, rfl, -⟩ := hv.1
 clear hJ hj hJS hY hT hC hc hCn
 have hB := Below.refl W.heap.size W
 go_enter Tryz.func104, Tryz.ntmps104
 go_wp2
 have hmx : (Tryz.prog).follows .mixedOrders = true := by kernel_rfl
 refine (wpIn_wide (n := 4)).1 ?_
 gi_region_with_o (first
  | (refine ⟨trivial, ?_⟩; refine CallsIn.mono (callsIn_wide.2 (kcl _ ?_)) ?_; (repeat (first|exact bzR _ _|exact hB|refine bzD ?_|refine bzN ?_|refine bzS ?_|refine bzA ?_)); rintro e w5 ⟨v5, b5, rfl, hr5', hb5⟩; have hB5 : Below W.heap.size W w5 := Below.trans bZ hb5; have y5 := bkeep hB5 y0; obtain ⟨fn, tmps, asg, body, hy, hRd⟩ := HYY.out k _ S w5 hk (HJ.out _ _ _ _ HJK.out (.of_below hB5) (out_others (Out.of_below (fun _ => False) hB5) fun _ h => h.elim)) ⟨v5, b5, _, rfl, hnW, hr5'⟩ (fun q hq hs => by obtain ⟨v', e, hb⟩ := hq; simp at e; subst e; have h1 := (prp_blk hr5' hb).2.1; have h2 := HS.out.lt hs; omega); have HR5 := hZ hr5'; obtain ⟨c5, rfl, -⟩ := hr5')
  | (refine hRd.mono ?_; rintro e w6 ⟨bb, rfl, hres⟩; have HRES := hZ hres; clear hres)
  | fail)
 all_goals
  gi_wp2
  go_wp2
  go_ret
  refine ⟨bb, rfl, ?_⟩
  rcases HRES.out with ⟨h1, S', hg, hj', ho⟩ | ⟨h1, S', hx⟩
  · exact .inl ⟨h1, S', fun q hq => (by
     rcases hg q hq with h | h | h
     · exact .inl h
     · obtain ⟨v', e, hb⟩ := h; simp at e; subst e; exact .inr (prp_blk HR5.out hb).2.1
     · exact .inr (Nat.le_trans hB5.size h)), hj', OutT.baseF hB5 ho (fun q hq => by obtain ⟨v', e, hb⟩ := hq; simp at e; subst e; exact (prp_blk HR5.out hb).2.1) fun q hq => HS.out.lt hq⟩
  · exact .inr ⟨h1, S', hx⟩
end
section
open Num
attribute [local go_sem ↓] Go.wp_at_zero Go.wp_at_succ
theorem toldQ_len {code : List Ins} {g : GridF} {m M k : Nat} (hr : RectF m g) (hs : SlimG g) (hc : ∀ n, n < code.length → 0 ≤ (code.getD n default).a ∧ (code.getD n default).a < g.length) (t : ToldF code g M) (hk : k < M) : (toldQ code g k).length = m := by
 obtain ⟨s, e⟩ := t.has
 have hl := t.le
 cases e1 : afterF code g k with
 | none => rw [afterF_mono e1 (show k ≤ M by omega)] at e; cases e
 | some g1 =>
  obtain ⟨h1, h2⟩ := hc k (by omega)
  rw [toldQ_eq e1, rowF_len]
  exact (afterF_ok hr hs hc (show k ≤ code.length by omega) e1).1 _ (by rw [afterF_len e1]; omega)
theorem OwnL.regsFS {S : Nat → Prop} {base : Nat} {w0 w : World} {v : Value} {g : GridF} (h : OwnL 38 (FRow base) w0 w v g) (hg : 0 < g.length) (hS : ∀ q, S q → q < base) : ∃ rb rc, v = .slice (some ⟨rb, 0, none⟩) g.length rc ∧ w0.heap.size ≤ rb ∧ RegsF S w rb g := by
 obtain ⟨rb, rc, e, h1, h2, h3, h4, h5, h6⟩ := h.blk hg
 refine ⟨rb, rc, e, h1, h4, h5, fun k hk => ?_⟩
 obtain ⟨u, hu, hp⟩ := h6 k hk
 have : g[k] = g.getD k [] := by simp [hk]
 rw [this] at hp
 exact ⟨u, hu, FRowX.of hp hS⟩
theorem runF_end {code : List Ins} {g : GridF} {M rb R rc : Nat} {J Jx : Nat → (Nat → Prop) → World → Prop} {e : Ending} {w : World} (t : ToldF code g M) (h : RunF code g M rb R rc J Jx e w) : (∃ q, e = .returned q) ∧ ((∃ S, J M S w) ∨ ∃ k S, k ≤ M ∧ Jx k S w) := by
 rcases h with ⟨s, S, h1, h2, h3, _⟩ | ⟨h2, ⟨_, S, h3⟩ | ⟨k, S, h3, h4⟩⟩
 · obtain rfl : M = code.length := by
    rcases Nat.lt_or_ge M code.length with h | h
    · rw [afterF_mono (t.stop h) (show M + 1 ≤ code.length by omega)] at h1; cases h1
    · have := t.le; omega
   exact ⟨⟨_, h2⟩, .inl ⟨S, h3⟩⟩
 · exact ⟨⟨_, h2⟩, .inl ⟨S, h3⟩⟩
 · exact ⟨⟨_, h2⟩, .inr ⟨k, S, h3, h4⟩⟩
structure StepsInF (n0 : Nat) (S0 : Nat → Prop) (pb : Nat) (ins regs : Int) (ca oa : Option Addr) (cc oc : Nat) (code : List Ins) (outs : List Int) (W : World) : Prop where
 p0 : W.cell? ⟨pb, 0, none⟩ = some (.int .i64 ins)
 p1 : W.cell? ⟨pb, 1, none⟩ = some (.int .i64 regs)
 p2 : W.cell? ⟨pb, 2, none⟩ = some (.slice ca code.length cc)
 p3 : W.cell? ⟨pb, 3, none⟩ = some (.slice oa outs.length oc)
 hc : InsV W ca cc code
 ho : IntsV W oa oc outs
 lt : ∀ q, S0 q → q < n0
 le : n0 ≤ W.heap.size
 nc : ∀ b off, ca = some ⟨b, off, none⟩ → 0 < code.length → ¬ S0 b
section
variable {n0 : Nat} {S0 : Nat → Prop} {pb : Nat} {ins regs : Int} {ca oa : Option Addr} {cc oc : Nat} {code : List Ins} {outs : List Int} {W W' : World}
theorem StepsInF.keep (h : StepsInF n0 S0 pb ins regs ca oa cc oc code outs W) (k : Below W.heap.size W W') : StepsInF n0 S0 pb ins regs ca oa cc oc code outs W' :=
 ⟨bkeep k h.p0, bkeep k h.p1, bkeep k h.p2, bkeep k h.p3, h.hc.keep k, h.ho.keep k, h.lt, Nat.le_trans h.le k.size, h.nc⟩
theorem stepsF_yes {M : Nat} (hok : ProgOk ins regs code outs) (hM : ToldF code (unitsF ins.toNat regs.toNat) M) :
 IterX Tryz.prog 103 #[.pointer (some ⟨pb, 0, none⟩)] (AF n0 (toldQ code (unitsF ins.toNat regs.toNat))) M XsF n0 S0 (StepsInF n0 S0 pb ins regs ca oa cc oc code outs) := by
 intro y J Jx W hG hJ hJx hJS hY h0
 refine callsIn_wide.2 ?_
 show Calls Tryz.prog 103 #[.func (.yield y) #[] #[], .pointer (some ⟨pb, 0, none⟩)] W _
 have CK := hZ (fun V (h : Below W.heap.size W V) => check_c ins regs ca oa cc oc code outs V (hG.hc.keep h) (hG.ho.keep h))
 have HJ := hZ (fun V (h : Below W.heap.size W V) => hJ 0 S0 W V h0 (.of_below h) (others_of_below h))
 have HJJ := hZ hJ
 have HJS := hZ hJS
 have HY := hZ (show YieldsF y M (AF n0 (toldQ code (unitsF ins.toNat regs.toNat))) XsF J Jx from fun k args S X hk hj ha hx => yieldAt_monoF (yieldAt_wide (hY k args S X hk hj ha hx)) fun e w h => by
  rcases h with ⟨rfl, h⟩ | ⟨rfl, h⟩
  · exact ⟨true, rfl, .inl ⟨rfl, h⟩⟩
  · exact ⟨false, rfl, .inr ⟨rfl, h⟩⟩)
 have HG := hZ hG
 have HOK := hZ hok
 have HM := hZ hM
 have HIN0 := hZ (fun k (hk : k < code.length) => (show InsOk (code.getD k default) (unitsF ins.toNat regs.toNat).length from by rw [unitsF_len]; exact ins_ofF hok hk))
 obtain ⟨n, rfl⟩ : ∃ n : Nat, ins = n := ⟨ins.toNat, by have := hok.i1; omega⟩
 obtain ⟨R, rfl⟩ : ∃ R : Nat, regs = R := ⟨regs.toNat, by have := hok.i1; have := hok.i2; omega⟩
 have hn1 : 1 ≤ n := by have := hok.i1; omega
 have hnR : n ≤ R := by have := hok.i2; omega
 have hR128 : R ≤ 128 := by have := hok.r1; omega
 have hcl := hok.c1
 have p0 := hG.p0
 have p1 := hG.p1
 have p2 := hG.p2
 have p3 := hG.p3
 have hn0 := hG.le
 have zp0 := cell_lt p0
 have HNC := hZ (show ∀ b off, ca = some ⟨b, off, none⟩ → 0 < code.length → b < W.heap.size ∧ ¬ S0 b from fun b off e hl => ⟨by
  rcases hG.hc with h0 | ⟨b', off', h1, _, h3⟩
  · rw [h0] at hl; simp at hl
  · rw [e] at h1; cases h1
    exact cell_lt (h3 0 hl).c0, hG.nc b off e hl⟩)
 clear hG hJ hJx hJS hY h0 hok hM
 simp only [Int.toNat_natCast] at HY HM HIN0
 have UC := hZ (fun V => units_c n R ca oa code.length cc outs.length oc V hnR hn1 hR128)
 have HUL := hZ (unitsF_len n R)
 have HUR := hZ (And.intro (unitsF_rect n R) (unitsF_slim n R))
 obtain ⟨U, hU⟩ : ∃ U, unitsF n R = U := ⟨_, rfl⟩
 rw [hU] at UC HUL HUR HM HY HIN0
 clear hU
 have hB := Below.refl W.heap.size W
 have y0 : (W.alloc (.cells #[.func (.yield y) #[] #[]] 155)).cell? ⟨W.heap.size, 0, none⟩ = some (.func (.yield y) #[] #[]) := cell_new rfl rfl
 go_enter Tryz.func103, Tryz.ntmps103
 go_wp2_with fail
 (with_reducible refine (CK.out _ ?_).mono ?_); (repeat (first|exact bzR _ _|exact hB|refine bzD ?_|refine bzN ?_|refine bzS ?_|refine bzA ?_))
 rintro e w1 ⟨r, s, rfl, (⟨hok, rfl, rfl⟩ | ⟨hok, rfl⟩), hb1⟩
 rotate_left
 · exact absurd HOK.out hok
 · have hB1 : Below W.heap.size W w1 := bthen bZ hb1
   have y1 : w1.cell? ⟨W.heap.size, 0, none⟩ = some (.func (.yield y) #[] #[]) := bkeep hb1 (by first | exact cell_new rfl rfl | exact cell_drew (cell_new rfl rfl))
   clear CK y0 hok
   have p0 := bkeep hB1 p0
   have p1 := bkeep hB1 p1
   have p2 := bkeep hB1 p2
   have p3 := bkeep hB1 p3
   have zp1 := cell_lt p0
   have zy1 := cell_lt y1
   have hsz : W.heap.size ≤ w1.heap.size := hB1.size
   have HP := hZ (show ∀ V, Below w1.heap.size w1 V → V.cell? ⟨pb, 0, none⟩ = some (.int .i64 (n : Int)) ∧ V.cell? ⟨pb, 1, none⟩ = some (.int .i64 (R : Int)) ∧ V.cell? ⟨pb, 2, none⟩ = some (.slice ca code.length cc) ∧ V.cell? ⟨pb, 3, none⟩ = some (.slice oa outs.length oc) from fun V h => ⟨bkeep h p0, bkeep h p1, bkeep h p2, bkeep h p3⟩)
   have RX := hZ (fun rb rc V (k : Below w1.heap.size w1 V) (hr : RegsF S0 V rb U) (hrb : w1.heap.size ≤ rb) => runQ_c n0 M S0 J Jx HJJ.out HJS.out HG.out.lt (n : Int) (R : Int) ca oa cc outs.length oc code U n rb rc 104 #[.pointer (some ⟨W.heap.size, 0, none⟩)] V (HG.out.hc.keep (bthen hB1 k)) HIN0.out (by omega) (by rw [HUL.out]; exact hR128) hr HUR.out.1 (by omega) HUR.out.2 HM.out
    (stepsFq_c y W.heap.size M (toldQ code U) J Jx _ n0 HJJ.out HJS.out (fun k hk => by
     have := toldQ_len HUR.out.1 HUR.out.2 (fun n hn => ⟨(HIN0.out n hn).a0, (HIN0.out n hn).a1⟩) HM.out hk
     omega) (fun V2 ho => okeep ho (bkeep k y1) (fun h => by
     rcases h with h | h
     · omega
     · have := HG.out.lt _ h; omega)) (fun V2 ho => Nat.le_trans HG.out.le (Nat.le_trans (Nat.le_trans hsz k.size) ho.size)) HY.out) (ensD Tryz.func104 (by kernel_rfl) rfl) (fun b off e hl => ⟨fun e2 => by
    have := (HNC.out b off e hl).1
    omega, (HNC.out b off e hl).2⟩) (by omega) (HJ.out V (bthen hB1 k)))
   rw [HUL.out] at RX
   have UD := hZ (fun V (h : Below w1.heap.size w1 V) => (UC.out V).mono (R' := fun e w' => ∃ rb rc, e = .returned (.slice (some ⟨rb, 0, none⟩) R rc) ∧ w1.heap.size ≤ rb ∧ RegsF S0 w' rb U ∧ Below w1.heap.size V w') fun e w' ⟨⟨v, h1, h2⟩, h3⟩ => by
    obtain ⟨rb, rc, hv, hlo, hr⟩ := h2.regsFS (S := S0) (by rw [HUL.out]; omega) (fun q hq => by have := HG.out.lt q hq; have := h.size; omega)
    rw [HUL.out] at hv
    exact ⟨rb, rc, by rw [h1, hv], Nat.le_trans h.size hlo, hr, h3.mono h.size⟩)
   clear p0 p1 p2 p3 y1 UC HNC
   obtain ⟨p0, p1, p2, p3⟩ := HP.out w1 (Below.refl _ _)
   have zp2 := cell_lt p0
   have hBc := Below.refl w1.heap.size w1
   go_wp2
   go_region_law (go_simp; go_wp2_with (first
    | (go_at_call 96; refine (UD.out _ ?_).mono ?_; (repeat (first|exact bzR _ _|exact hBc|refine bzD ?_|refine bzN ?_|refine bzS ?_|refine bzA ?_)); rintro e w3 ⟨rb, rc, rfl, hrb, hrg, hb3⟩; (have hBd : Below w1.heap.size w1 w3 := Below.trans bZ hb3; clear hBc; have hBc := hBd; clear hBd); have HRG := hZ hrg; have hBu := Below.refl w3.heap.size w3; clear hrg hb3; obtain ⟨p0, p1, p2, p3⟩ := HP.out w3 hBc; have zp3 := cell_lt p0)
    | (go_at_call 95; refine (RX.out rb rc _ ?_ (HRG.out.keep ?_) hrb).mono ?_; (repeat (first|exact bzR _ _|exact hBc|refine bzD ?_|refine bzN ?_|refine bzS ?_|refine bzA ?_)); (repeat (first|exact bzR _ _|exact hBu|refine bzD ?_|refine bzN ?_|refine bzS ?_|refine bzA ?_)); rintro e w4 hres; have HRES := hZ (show (∃ q, e = .returned q) ∧ ((∃ S, J M S w4) ∨ ∃ k S, k ≤ M ∧ Jx k S w4) from runF_end HM.out hres); obtain ⟨⟨q, rfl⟩, -⟩ := HRES.out; clear hres)
    | fail))
   all_goals
    go_wp2
    refine bodyPost_end (results_none rfl _ _ _) rfl ?_
    exact ⟨⟨_, rfl⟩, HRES.out.2⟩
end
end
section
open Num
attribute [local go_sem ↓] Go.wp_at_zero Go.wp_at_succ
def dC : List Ins := [⟨4, 2, 0, 1, 0⟩, ⟨6, 2, 2, 0, 2⟩]
def dO : List Int := [2, 0]
theorem d_ok : ProgOk 2 3 dC dO := by
 refine ⟨by decide, by decide, by decide, by decide, by decide, by decide, fun k hk => ?_, fun k hk => ?_⟩
 · rcases (show k = 0 ∨ k = 1 by have : k < 2 := hk; omega) with rfl | rfl <;> decide
 · rcases (show k = 0 ∨ k = 1 by have : k < 2 := hk; omega) with rfl | rfl <;> decide
def dG : GridF := [[1, 0], [0, 1], [(Rat.divInt 1 2), (Rat.divInt (-1) 2)]]
theorem d_end : endF 2 3 dC = some dG := by kernel_rfl
theorem d_outs : outsF dO dG = [[(Rat.divInt 1 2), (Rat.divInt (-1) 2)], [1, 0]] := by kernel_rfl
theorem d_told : ToldF dC (unitsF (2 : Int).toNat (3 : Int).toNat) 2 := by
 obtain ⟨m, t⟩ := toldF_ex dC (unitsF (2 : Int).toNat (3 : Int).toNat)
 have h := d_end
 have hm : m = 2 := by
  by_cases e : m < 2
  · have h1 := t.stop e
    have h2 := afterF_mono h1 (show m + 1 ≤ 2 by omega)
    have h3 : afterF dC (unitsF (2 : Int).toNat (3 : Int).toNat) 2 = some dG := h
    rw [h3] at h2; cases h2
  · have := t.le
    have : m ≤ 2 := this
    omega
 rw [hm] at t; exact t
theorem txt_h : (qTxt (Rat.divInt 1 2)).toArray = #[49, 47, 50] := by kernel_rfl
theorem txt_mh : (qTxt (Rat.divInt (-1) 2)).toArray = #[45, 49, 47, 50] := by kernel_rfl
theorem txt_1 : (qTxt 1).toArray = #[49] := by kernel_rfl
theorem equalInF9 {P : Program} (w : World) (d : Nat) (t : TypeId) {ps rs : Array TypeId} {v : Bool} (f : Fn) (bs cs : Array Value) (h : P.underlying t = some (.func ps rs v)) : (Op.equalIn (d + 1) t (.func f bs cs) .nilFunc).run P w = .ok false w := by
 simp [Op.equalIn, run_underlying h]
theorem eqlF9 {P : Program} (w : World) (t : TypeId) {ps rs : Array TypeId} {v : Bool} (f : Fn) (bs cs : Array Value) (h : P.underlying t = some (.func ps rs v)) : (binOp .eql t (.func f bs cs) .nilFunc).run P w = .ok (.bool false) w := by
 simp only [binOp]
 simp [Op.equal, Op.maxDepth, equalInF9 w 9999 t f bs cs h]
theorem example9_c (w : World) : Calls Tryz.prog 52 #[] w fun e w' => (∃ a b, e = .returned (.agg #[.int .i64 2, .int .i64 3, .slice (some a) 2 2, .slice (some b) 2 2]) ∧ InsV w' (some a) 2 dC ∧ IntsV w' (some b) 2 dO) ∧ Below w.heap.size w w' := by
 have hB := Below.refl w.heap.size w
 go_enter Tryz.func52, Tryz.ntmps52
 go_wp2
 refine bodyPost_ret (v := .agg #[.int .i64 2, .int .i64 3, .slice (some ⟨w.heap.size + 1, 0, none⟩) 2 2, .slice (some ⟨w.heap.size + 1 + 1, 0, none⟩) 2 2]) (by simp [results, Tryz.results52, go_sem]) rfl ⟨⟨_, _, rfl, .inr ⟨w.heap.size + 1, 0, rfl, by decide, fun k hk => ?_⟩, .inr ⟨w.heap.size + 1 + 1, 0, rfl, by decide, fun k hk => ?_⟩⟩, bZ⟩
 · rcases (show k = 0 ∨ k = 1 by have : k < 2 := hk; omega) with rfl | rfl
   · constructor <;> simp [go_sem, dC]
   · constructor <;> simp [go_sem, dC]
 · rcases (show k = 0 ∨ k = 1 by have : k < 2 := hk; omega) with rfl | rfl <;> simp [go_sem, dO]
theorem steps9_c (ins regs : Int) (ca oa : Option Addr) (cl cc ol oc : Nat) (w : World) : Calls Tryz.prog 21 #[.agg #[.int .i64 ins, .int .i64 regs, .slice ca cl cc, .slice oa ol oc]] w fun e w' => (∃ pb, e = .returned (.func (.func 103) #[] #[.pointer (some ⟨pb, 0, none⟩)]) ∧ w'.cell? ⟨pb, 0, none⟩ = some (.int .i64 ins) ∧ w'.cell? ⟨pb, 1, none⟩ = some (.int .i64 regs) ∧ w'.cell? ⟨pb, 2, none⟩ = some (.slice ca cl cc) ∧ w'.cell? ⟨pb, 3, none⟩ = some (.slice oa ol oc)) ∧ Below w.heap.size w w' := by
 have hB := Below.refl w.heap.size w
 go_enter Tryz.func21, Tryz.ntmps21
 go_wp2
 go_ret
 refine ⟨⟨_, rfl, by simp [go_sem], by simp [go_sem], by simp [go_sem], by simp [go_sem]⟩, ?_⟩
 repeat exact bZ
end
end Go.Proofs.YtbmaffijncapiaaGreatDoor
namespace Go.Proofs.YtbmaffijncapiaaGreatDoor
open Go.ChangeShapes Go.WideShapes Go.ChangeAt Go.RowKit Go.Joins Go.Deep
namespace bulks
theorem one_le {H : Type} (d : DataW H) : 1 ≤ Rows.uptoBulk d := by
 cases d with
 | lit l => cases l <;> simp [Rows.uptoBulk]
 | nil => simp [Rows.uptoBulk]
 | ptr d => simp [Rows.uptoBulk]
 | slice elems spare => simp [Rows.uptoBulk]
 | agg parts => simp [Rows.uptoBulk]
 | iface t d => simp [Rows.uptoBulk]
 | map entries => simp [Rows.uptoBulk]
 | held h => simp [Rows.uptoBulk]
theorem length_le {H : Type} (l : List (DataW H)) : l.length ≤ Rows.uptoBulkAll l := by
 induction l with
 | nil => simp [Rows.uptoBulkAll]
 | cons x r ih => have := one_le x; simp only [Rows.uptoBulkAll, List.length_cons]; omega
end bulks
section
variable {H : Type} {enc : TypeId × Value → H} {P : Program} {w : World} {base : Nat} {spare : Nat → Bool} {held : Bool}
theorem open_slice_fields {t e : TypeId} {fs : Array Field} {fuel : Nat} {cs : List Value} {x : DataW H × List MemPlace} (ht : P.underlying t = some (.slice e)) (he : P.underlying e = some (.struct fs))
 (hone : oneCellFields P fs = true) (hC : P.cellsOf e = fs.size) (h : DataW.trod enc P w base spare held fuel t cs = some x) :
 (cs = [.slice none 0 0] ∧ x = (.nil, [])) ∨
 ∃ (a : Addr) (len cap m : Nat) (D : Nat → DataW H) (Pl : Nat → List MemPlace), cs = [.slice (some a) len cap] ∧ base ≤ a.block ∧ len ≤ cap ∧ cap ≤ maxLen ∧ m = (if spare a.block then cap else len) ∧
  x = (.slice ((List.range len).map D) ((List.range (m - len)).map fun j => D (len + j)), MemPlace.row a (m * fs.size) ++ (List.range m).flatMap Pl) ∧
  ∀ i, i < m → ∃ (ys : List (DataW H × List MemPlace)) (n : Nat), D i = .agg (ys.map (·.1)) ∧ Pl i = ys.flatMap (·.2) ∧ ys.length = fs.size ∧
   ∀ (j : Nat) (f : Field), fs[j]? = some f → ∃ (v : Value) (y : DataW H × List MemPlace), w.cell? (a.add (i * fs.size + j)) = some v ∧ ys[j]? = some y ∧ DataW.trod enc P w base spare held n f.type [v] = some y := by
 rcases open_slice ht h with h0 | ⟨a, len, cap, m, n, D, Pl, hcs, hb, hl, hm, hmm, hx, hi⟩
 · exact .inl h0
 · refine .inr ⟨a, len, cap, m, D, Pl, hcs, hb, hl, hm, hmm, by rw [hC] at hx; exact hx, fun i him => ?_⟩
   obtain ⟨cs', hc, ht'⟩ := hi i him
   rw [hC] at hc
   obtain ⟨ys, n', hn', hy, hlen, hyl, hf⟩ := DataW.trod_struct he ht'
   obtain ⟨_, hcl, hat⟩ := World.cells?_some hc
   simp only [Prod.mk.injEq] at hy
   refine ⟨ys, n', hy.1, hy.2, hyl, fun j f hj => ?_⟩
   obtain ⟨ho, hk⟩ := hone_of hone j f hj
   have hjl : j < fs.size := (Array.getElem?_eq_some_iff.1 hj).1
   have hcell := hat j hjl
   have hv : cs'[j]? = some (cs'[j]'(by omega)) := List.getElem?_eq_getElem (by omega)
   have h1 := hf j f hj
   rw [ho, hk] at h1
   have hone' : (cs'.drop j).take 1 = [cs'[j]'(by omega)] := by
    rw [List.drop_eq_getElem_cons (by omega)]
    rfl
   rw [hone'] at h1
   have hys : ys[j]? = some (ys[j]'(by omega)) := List.getElem?_eq_getElem (by omega)
   refine ⟨_, _, ?_, hys, h1.trans hys⟩
   rw [← Go.Deep.add_add, hcell, hv]
end
theorem addr_plain {w : World} {a : Addr} {v : Value} (h : w.cell? a = some v) : a = ⟨a.block, a.off, none⟩ := by
 obtain ⟨b, o, s⟩ := a
 cases s with
 | none => rfl
 | some s =>
  simp only [World.cell?] at h
  split at h <;> simp at h
theorem add_plain (b o k : Nat) : (⟨b, o, none⟩ : Addr).add k = ⟨b, o + k, none⟩ := by
 unfold Addr.add; split
 · subst_vars; rfl
 · rfl
theorem plain_at {w : World} {a : Addr} {v : Value} (h : w.cell? (a.add 0) = some v) : ∃ b o, a = ⟨b, o, none⟩ := by
 have h2 : w.cell? a = some v := by simpa [Addr.add] using h
 exact ⟨_, _, addr_plain h2⟩
section
variable {H : Type} {enc : TypeId × Value → H} {W : World} {b0 : Nat} {r : Reach} {v : Value} {d : DataW H} {p : List MemPlace}
theorem i64_of {n : Int} (h : (Lit.int .i64 n).wf = true) : I64 n := by
 have h1 := (Lit.wf_int_iff .i64 n).1 h
 have e1 : IntKind.i64.min = -9223372036854775808 := by decide
 have e2 : IntKind.i64.max = 9223372036854775807 := by decide
 rw [e1, e2] at h1
 exact h1
theorem open_intsV {fuel : Nat} {v : Value} {y : DataW H × List MemPlace} (h : DataW.trod enc Tryz.prog W 0 (fun _ => true) true fuel 23 [v] = some y) :
 ∃ a c L, v = .slice a (List.length L) c ∧ IntsV W a c L ∧ (a = none → L = []) ∧ L.length ≤ Rows.uptoBulk y.1 := by
 rcases open_ints Tryz.underlying23 Tryz.underlying3 (by kernel_rfl) h with ⟨hcs, rfl⟩ | ⟨a, len, cap, zs, hcs, _, hl, hm, hz, rfl, hc, hw⟩
 · simp at hcs; subst hcs
   exact ⟨_, _, [], rfl, .inl rfl, fun _ => rfl, by simp⟩
 · simp at hcs; subst hcs
   simp only [if_true] at hz
   have hlen : (zs.take len).length = len := by rw [List.length_take]; omega
   refine ⟨some a, cap, zs.take len, by rw [hlen], ?_, (fun e => by cases e), ?_⟩
   · by_cases h0 : len = 0
     · exact .inl (by subst h0; simp)
     · obtain ⟨b, o, rfl⟩ := plain_at (hc 0 (by omega))
       refine .inr ⟨b, o, rfl, by rw [hlen]; exact hl, fun k hk => ?_⟩
       rw [hlen] at hk
       have h9 := hc k (by omega)
       rw [add_plain] at h9
       rw [h9, List.getD_eq_getElem?_getD, List.getD_eq_getElem?_getD, List.getElem?_take_of_lt hk]
   · have := bulks.length_le (H := H) (lits .i64 (zs.take len))
     simp only [lits, List.length_map] at this
     simp only [Rows.uptoBulk, lits]; omega
theorem cells_ins : Tryz.prog.cellsOf 96 = 5 := by kernel_rfl
theorem open_insV {fuel : Nat} {v : Value} {y : DataW H × List MemPlace} (h : DataW.trod enc Tryz.prog W 0 (fun _ => true) true fuel 22 [v] = some y) :
 ∃ a c L, v = .slice a (List.length L) c ∧ InsV W a c L ∧ (a = none → L = []) ∧ L.length ≤ Rows.uptoBulk y.1 := by
 rcases open_slice_fields Tryz.underlying22 Tryz.underlying96 (by kernel_rfl) cells_ins h with ⟨hcs, rfl⟩ | ⟨x, n, c, m, D, Pl, hcs, _, hl, hm, hmm, rfl, hcell⟩
 · simp at hcs; subst hcs
   exact ⟨_, _, [], rfl, .inl rfl, fun _ => rfl, by simp⟩
 · simp at hcs; subst hcs
   simp only [if_true] at hmm
   subst hmm
   have hall : ∀ i, i < m → ∃ q : Ins, W.cell? (x.add (i * 5)) = some (.int .i64 q.op) ∧ W.cell? (x.add (i * 5 + 1)) = some (.int .i64 q.to) ∧ W.cell? (x.add (i * 5 + 2)) = some (.int .i64 q.a) ∧ W.cell? (x.add (i * 5 + 3)) = some (.int .i64 q.b) ∧ W.cell? (x.add (i * 5 + 4)) = some (.int .i64 q.c) := by
    intro i hi
    obtain ⟨ys, k, _, _, _, hf⟩ := hcell i hi
    obtain ⟨u0, y0, c0, _, t0⟩ := hf 0 _ rfl
    obtain ⟨u1, y1, c1, _, t1⟩ := hf 1 _ rfl
    obtain ⟨u2, y2, c2, _, t2⟩ := hf 2 _ rfl
    obtain ⟨u3, y3, c3, _, t3⟩ := hf 3 _ rfl
    obtain ⟨u4, y4, c4, _, t4⟩ := hf 4 _ rfl
    obtain ⟨a0, e0, _, _⟩ := DataW.trod_int Tryz.underlying3 t0
    obtain ⟨a1, e1, _, _⟩ := DataW.trod_int Tryz.underlying3 t1
    obtain ⟨a2, e2, _, _⟩ := DataW.trod_int Tryz.underlying3 t2
    obtain ⟨a3, e3, _, _⟩ := DataW.trod_int Tryz.underlying3 t3
    obtain ⟨a4, e4, _, _⟩ := DataW.trod_int Tryz.underlying3 t4
    simp at e0 e1 e2 e3 e4
    subst e0 e1 e2 e3 e4
    exact ⟨⟨a0, a1, a2, a3, a4⟩, c0, c1, c2, c3, c4⟩
   have hf : ∃ f : Nat → Ins, ∀ i, i < m → W.cell? (x.add (i * 5)) = some (.int .i64 (f i).op) ∧ W.cell? (x.add (i * 5 + 1)) = some (.int .i64 (f i).to) ∧ W.cell? (x.add (i * 5 + 2)) = some (.int .i64 (f i).a) ∧ W.cell? (x.add (i * 5 + 3)) = some (.int .i64 (f i).b) ∧ W.cell? (x.add (i * 5 + 4)) = some (.int .i64 (f i).c) := by
    refine ⟨fun i => if hi : i < m then (hall i hi).choose else default, fun i hi => ?_⟩
    simp only [dif_pos hi]
    exact (hall i hi).choose_spec
   obtain ⟨f, hf⟩ := hf
   refine ⟨some x, m, (List.range n).map f, by simp, ?_, (fun e => by cases e), ?_⟩
   · by_cases h0 : n = 0
     · exact .inl (by subst h0; simp)
     · obtain ⟨b, o, rfl⟩ := plain_at (by have := (hf 0 (by omega)).1; simpa using this)
       refine .inr ⟨b, o, rfl, by simpa using hl, fun k hk => ?_⟩
       rw [List.length_map, List.length_range] at hk
       obtain ⟨c0, c1, c2, c3, c4⟩ := hf k (by omega)
       rw [add_plain] at c0 c1 c2 c3 c4
       have e : ((List.range n).map f).getD k default = f k := by simp [hk]
       rw [e]
       exact ⟨c0, c1, c2, c3, c4⟩
   · have := bulks.length_le (H := H) ((List.range n).map D)
     simp only [List.length_map, List.length_range] at this ⊢
     simp only [Rows.uptoBulk]; omega
theorem cells_prog : Tryz.prog.cellsOf 25 = 4 := by kernel_rfl
theorem open_prog (hv : Value.okWide Tryz.prog W r b0 25 v) (h : DataW.Trod enc Tryz.prog W 0 (fun _ => true) true 25 v d p) :
 ∃ ins regs ca oa cc oc code outs, v = .agg #[.int .i64 ins, .int .i64 regs, .slice ca (List.length code) cc, .slice oa (List.length outs) oc] ∧ InsV W ca cc code ∧ IntsV W oa oc outs ∧ (ca = none → code = []) ∧ (oa = none → outs = []) ∧ code.length + outs.length ≤ Rows.uptoBulk d := by
 obtain ⟨v0, v1, v2, v3, y0, y1, y2, y3, n, rfl, rfl, rfl, t0, t1, t2, t3⟩ := open_agg4 Tryz.underlying25 (by kernel_rfl) cells_prog hv h
 obtain ⟨a0, e0, rfl, _⟩ := DataW.trod_int Tryz.underlying3 t0
 obtain ⟨a1, e1, rfl, _⟩ := DataW.trod_int Tryz.underlying3 t1
 simp at e0 e1
 subst e0 e1
 obtain ⟨ca, cc, code, rfl, hc, hcn, hcl⟩ := open_insV t2
 obtain ⟨oa, oc, outs, rfl, ho, hon, hol⟩ := open_intsV t3
 exact ⟨a0, a1, ca, oa, cc, oc, code, outs, rfl, hc, ho, hcn, hon, by simp only [Rows.uptoBulk, Rows.uptoBulkAll]; omega⟩
end
end Go.Proofs.YtbmaffijncapiaaGreatDoor
