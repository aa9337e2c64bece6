/- Texts of this seat, laid together: DwA, DnM, Vo, Wo. Each opens with its own remark, which says what it proves, and under which conditions. -/
import Derived.Test.YtbmaffijncapiaaGreatDoorL25
import Derived.Test.YtbmaffijncapiaaGreatDoorL27
import Derived.Test.YtbmaffijncapiaaGreatDoorL14
import Derived.Test.YtbmaffijncapiaaGreatDoorRows
import Derived.Test.YtbmaffijncapiaaGreatDoorL10
import Derived.Lib.SmallJoins
import Derived.Deep.Slices
import Derived.Deep.Matrix
import Derived.Deep.Fields
import Derived.ChangeSame
import Derived.DataShut
import Derived.SizedLaws
set_option linter.unusedVariables false
set_option linter.unusedSimpArgs false
/- denote's laws: the document's example; Steps. -/
namespace Go.Proofs.YtbmaffijncapiaaGreatDoor
open Num
open Go.ChangeShapes Go.WideShapes Go.ChangeAt Go.RowKit
set_option linter.unusedVariables false
set_option linter.unusedSimpArgs false
attribute [local go_sem ↓] Go.wp_at_zero Go.wp_at_succ
def dC : List Ins := [⟨4, 2, 0, 1, 0⟩, ⟨6, 2, 2, 0, 2⟩]
def dO : List Int := [2, 0]
theorem d_ok : ProgOk 2 3 dC dO := by
  refine ⟨by decide, by decide, by decide, by decide, by decide, by decide, fun k hk => ?_, fun k hk => ?_⟩
  · rcases (show k = 0 ∨ k = 1 by have : k < 2 := hk; omega) with rfl | rfl <;> decide
  · rcases (show k = 0 ∨ k = 1 by have : k < 2 := hk; omega) with rfl | rfl <;> decide
def dG : GridF := [[1, 0], [0, 1], [(Rat.divInt 1 2), (Rat.divInt (-1) 2)]]
theorem d_end : endF 2 3 dC = some dG := by kernel_rfl
theorem d_outs : outsF dO dG = [[(Rat.divInt 1 2), (Rat.divInt (-1) 2)], [1, 0]] := by kernel_rfl
theorem d_told : ToldF dC (unitsF (2 : Int).toNat (3 : Int).toNat) 2 := by
  obtain ⟨m, t⟩ := toldF_ex dC (unitsF (2 : Int).toNat (3 : Int).toNat)
  have h := d_end
  have hm : m = 2 := by
    by_cases e : m < 2
    · have h1 := t.stop e
      have h2 := afterF_mono h1 (show m + 1 ≤ 2 by omega)
      have h3 : afterF dC (unitsF (2 : Int).toNat (3 : Int).toNat) 2 = some dG := h
      rw [h3] at h2; cases h2
    · have := t.le
      have : m ≤ 2 := this
      omega
  rw [hm] at t; exact t
theorem txt_h : (qTxt (Rat.divInt 1 2)).toArray = #[49, 47, 50] := by kernel_rfl
theorem txt_mh : (qTxt (Rat.divInt (-1) 2)).toArray = #[45, 49, 47, 50] := by kernel_rfl
theorem txt_1 : (qTxt 1).toArray = #[49] := by kernel_rfl
theorem equalInF9 {P : Program} (w : World) (d : Nat) (t : TypeId) {ps rs : Array TypeId} {v : Bool} (f : Fn) (bs cs : Array Value) (h : P.underlying t = some (.func ps rs v)) : (Op.equalIn (d + 1) t (.func f bs cs) .nilFunc).run P w = .ok false w := by
  simp [Op.equalIn, run_underlying h]
theorem eqlF9 {P : Program} (w : World) (t : TypeId) {ps rs : Array TypeId} {v : Bool} (f : Fn) (bs cs : Array Value) (h : P.underlying t = some (.func ps rs v)) : (binOp .eql t (.func f bs cs) .nilFunc).run P w = .ok (.bool false) w := by
  simp only [binOp]
  simp [Op.equal, Op.maxDepth, equalInF9 w 9999 t f bs cs h]
set_option maxRecDepth 100000 in
set_option maxHeartbeats 4000000 in
theorem example9_c (w : World) : Calls Tryz.prog 52 #[] w fun e w' => (∃ a b, e = .returned (.agg #[.int .i64 2, .int .i64 3, .slice (some a) 2 2, .slice (some b) 2 2]) ∧ InsV w' (some a) 2 dC ∧ IntsV w' (some b) 2 dO) ∧ Below w.heap.size w w' := by
  have hB := Below.refl w.heap.size w
  go_enter Tryz.func52, Tryz.ntmps52
  go_wp2
  refine bodyPost_ret (v := .agg #[.int .i64 2, .int .i64 3, .slice (some ⟨w.heap.size + 1, 0, none⟩) 2 2, .slice (some ⟨w.heap.size + 1 + 1, 0, none⟩) 2 2]) (by simp [results, Tryz.results52, go_sem]) rfl ⟨⟨_, _, rfl, .inr ⟨w.heap.size + 1, 0, rfl, by decide, fun k hk => ?_⟩, .inr ⟨w.heap.size + 1 + 1, 0, rfl, by decide, fun k hk => ?_⟩⟩, by repeat (first|exact bzR _ _|exact hB|refine bzD ?_|refine bzN ?_|refine bzS ?_|refine bzA ?_)⟩
  · rcases (show k = 0 ∨ k = 1 by have : k < 2 := hk; omega) with rfl | rfl
    · constructor <;> simp [go_sem, dC]
    · constructor <;> simp [go_sem, dC]
  · rcases (show k = 0 ∨ k = 1 by have : k < 2 := hk; omega) with rfl | rfl <;> simp [go_sem, dO]
set_option maxRecDepth 100000 in
theorem steps9_c (ins regs : Int) (ca oa : Option Addr) (cl cc ol oc : Nat) (w : World) : Calls Tryz.prog 21 #[.agg #[.int .i64 ins, .int .i64 regs, .slice ca cl cc, .slice oa ol oc]] w fun e w' => (∃ pb, e = .returned (.func (.func 103) #[] #[.pointer (some ⟨pb, 0, none⟩)]) ∧ w'.cell? ⟨pb, 0, none⟩ = some (.int .i64 ins) ∧ w'.cell? ⟨pb, 1, none⟩ = some (.int .i64 regs) ∧ w'.cell? ⟨pb, 2, none⟩ = some (.slice ca cl cc) ∧ w'.cell? ⟨pb, 3, none⟩ = some (.slice oa ol oc)) ∧ Below w.heap.size w w' := by
  have hB := Below.refl w.heap.size w
  go_enter Tryz.func21, Tryz.ntmps21
  go_wp2
  go_ret
  refine ⟨⟨_, rfl, by simp [go_sem], by simp [go_sem], by simp [go_sem], by simp [go_sem]⟩, ?_⟩
  repeat (first|exact bzR _ _|exact hB|refine bzD ?_|refine bzN ?_|refine bzS ?_|refine bzA ?_)
end Go.Proofs.YtbmaffijncapiaaGreatDoor

/- slices.Grow, slices.Concat at rows of fractions. -/
namespace Go.Proofs.YtbmaffijncapiaaGreatDoor
open Num
open Go.ChangeShapes Go.WideShapes Go.ChangeAt Go.RowKit
set_option linter.unusedVariables false
set_option linter.unusedSimpArgs false
attribute [local go_sem ↓] Go.wp_at_zero Go.wp_at_succ
theorem appq_lt {L l : List Rat} {k : Nat} (h : k < L.length) : (L ++ l).getD k 0 = L.getD k 0 := by simp [List.getD_eq_getElem?_getD, List.getElem?_append, h]
theorem appq_ge {L l : List Rat} {k : Nat} (h : L.length ≤ k) : (L ++ l).getD k 0 = l.getD (k - L.length) 0 := by
  simp [List.getD_eq_getElem?_getD, List.getElem?_append_right h]
theorem app_catQ {ops : Array Oper} {rest : List Oper} {o : Oper} {a : Act} {Q : Exit → Act → World → Prop} {w0 wr : World} {v : Value} {L l : List Rat} {b off c : Nat} {s x : Operand} (hgd : o.guard = none)
    (ho : o.op = .call { callee := .builtin .append, args := #[s, x], argTypes := #[38, 38] })
    (hO : FrOwn IsQP 79 w0 wr v L) (hl : ∀ k, k < l.length → FrC IsQP wr b (off + k * 4) (l.getD k 0)) (hs : a.eval s = v) (hx : a.eval x = .slice (some ⟨b, off, none⟩) l.length c) (hn : L.length + l.length ≤ 1099511627776)
    (h : ∀ v' w', Hid (FrOwn IsQP 79 w0 w' v' (L ++ l)) → wpList Tryz.prog ops Q rest (a.put o.dst v') w') : wpList Tryz.prog ops Q (o :: rest) a wr := by
  obtain ⟨i0, z0, hi, hz0, hz1, hz2, hz3⟩ := elRat.info
  obtain ⟨xs, hO1, hO2⟩ := hO
  refine wpList_append_own _ hgd s x 38 ho w0.heap.size 79 i0 z0 4 64 Tryz.underlying38 hi hz0 hz1 hz2 hz3 (by decide) v L.length xs hs hO1.1 ⟨b, off, none⟩ l.length c (cellsAt wr b off (l.length * 4)) hx (cellsAt_len _ _ _ _)
    (cellsAt_at (Below.refl _ _) fun j hj => by obtain ⟨v, hv, _⟩ := frc_cells hl j hj; exact ⟨v, hv⟩) (cellsAt_all (frc_cells hl)) (by unfold maxLen; omega) (by omega) hO1.2.size ?_
  intro v' w' hown hg _
  have hbel := below_append (wr := wr) hO1.2 hO1.1 hg
  have hlim : Lim wr w' := (Lim.refl wr).grown hg fun g hg' ht => by
    rw [own_typ hO1 hg'] at ht
    exact absurd (Option.some.inj ht) (by decide)
  refine h v' w' (Lib.hid ⟨_, ⟨by rw [List.length_append]; exact hown, hbel⟩, fun k hk => ?_⟩)
  have hxl : xs.length = L.length * 4 := hO1.1.1
  rw [List.length_append] at hk
  by_cases e : k < L.length
  · obtain ⟨n1, a1, l1, c1, n2, a2, l2, c2, e0, e1, e2, e3, e4⟩ := hO2 k e
    exact ⟨n1, a1, l1, c1, n2, a2, l2, c2, by rw [List.getElem?_append_left (by omega)]; exact e0, by rw [List.getElem?_append_left (by omega)]; exact e1, by rw [List.getElem?_append_left (by omega)]; exact e2, by rw [List.getElem?_append_left (by omega)]; exact e3, by rw [appq_lt e]; exact frk_prog.lim hlim e4⟩
  · obtain ⟨n1, a1, l1, c1, n2, a2, l2, c2, e0, e1, e2, e3, e4⟩ := hl (k - L.length) (by omega)
    refine ⟨n1, a1, l1, c1, n2, a2, l2, c2, ?_, ?_, ?_, ?_, by rw [appq_ge (by omega)]; exact frk_prog.lim hlim e4⟩
    · rw [List.getElem?_append_right (by omega), hxl, show k * 4 - L.length * 4 = (k - L.length) * 4 by omega]; exact cellsAt_get (by omega) e0
    · rw [List.getElem?_append_right (by omega), hxl, show k * 4 + 1 - L.length * 4 = (k - L.length) * 4 + 1 by omega]; exact cellsAt_get (by omega) e1
    · rw [List.getElem?_append_right (by omega), hxl, show k * 4 + 2 - L.length * 4 = (k - L.length) * 4 + 2 by omega]; exact cellsAt_get (by omega) e2
    · rw [List.getElem?_append_right (by omega), hxl, show k * 4 + 3 - L.length * 4 = (k - L.length) * 4 + 3 by omega]; exact cellsAt_get (by omega) e3
set_option maxRecDepth 100000 in
set_option maxHeartbeats 2000000 in
theorem growQ_c (n : Nat) (w : World) (h0 : 0 < n) (hn : n ≤ 1099511627776) :
    Calls Tryz.prog 197 #[.slice none 0 0, .int .i64 (n : Nat)] w fun e w' => (∃ v, e = .returned v ∧ ∀ base, base ≤ w.heap.size → w'.ownsRow base 79 4 v 0 []) ∧ Below w.heap.size w w' := by
  obtain ⟨i0, z0, hi, hz0, hz1, hz2, hz3⟩ := elRat.info
  have hB := Below.refl w.heap.size w
  have hr := fun ty => Lib.run_append_nil_zeros w 38 3 ty 79 i0 z0 .i64 .i64 Tryz.underlying38 Tryz.underlying3 hi hz0 n h0 (by omega) (by omega) (by rw [hz2]; omega)
  have h1 : ¬ ((n : Int) < 0) := by omega
  have h2 : (0 : Int) < (n : Int) := by omega
  have hcap : n ≤ grownCap w n 0 79 := grownCap_ge _ _ _ _
  have hcm : grownCap w n 0 79 ≤ maxLen := grownCap_le_maxLen _ _ _ _ (by unfold maxLen; omega)
  obtain ⟨G, hG⟩ : ∃ G, grownCap w n 0 79 = G := ⟨_, rfl⟩
  rw [hG] at hcap hcm hr
  have HO := Lib.hid (show ∀ base, base ≤ w.heap.size → (w.drew.alloc (.cells (Builtin.zeroCells z0.cells n ++ Builtin.zeroCells z0.cells (G - n)) 79)).ownsRow base 79 4 (.slice (some ⟨w.heap.size, 0, none⟩) 0 G) 0 [] from fun base hb =>
    ⟨rfl, .inr ⟨w.heap.size, G, _, rfl, hb, (MapKept.heap_alloc w.drew _).1, Nat.zero_le _, hcm, by rw [Array.size_append, size_zeroCells, size_zeroCells, hz3, ← Nat.add_mul]; congr 1; omega, rfl⟩⟩)
  have hBa : Below w.heap.size w (w.drew.alloc (.cells (Builtin.zeroCells z0.cells n ++ Builtin.zeroCells z0.cells (G - n)) 79)) := bal (Below.refl _ _).drew _
  obtain ⟨wz, hwz⟩ : ∃ wz, (w.drew.alloc (.cells (Builtin.zeroCells z0.cells n ++ Builtin.zeroCells z0.cells (G - n)) 79)) = wz := ⟨_, rfl⟩
  rw [hwz] at HO hBa hr
  have hG0 : (0 : Int) ≤ (G : Int) := by omega
  have HR := Lib.hid hr
  clear hr hwz hG hi hz0 hz1 hz2 hz3
  go_enter Tryz.func197, Tryz.ntmps197
  go_wp2_with (at_builtin; refine Lib.wpList_append_run _ (by rfl) _ _ 38 3 rfl _ _ rfl rfl _ _ (HR.out _) ?_)
  try go_wp2
  go_ret
  exact ⟨⟨_, rfl, HO.out⟩, hBa⟩
def PSq (w : World) (u : Value) (l : List Rat) : Prop := ∃ b off c, u = .slice (some ⟨b, off, none⟩) l.length c ∧ typOf w b = some 79 ∧ ∀ k, k < l.length → FrC IsQP w b (off + k * 4) (l.getD k 0)
theorem prs_psq : Prs (fun t => t = 177 ∨ t = 79) PSq where
  one := fun ⟨b, off, c, e, _⟩ => by rw [e]; rfl
  kp := fun {w w' u x} ⟨b, off, c, e, ht, hi⟩ k => ⟨b, off, c, e, k.typ ht (.inr rfl), fun j hj => (hi j hj).stay frk_prog (k _ _ ht (.inr rfl)) (k.lim (.inl rfl))⟩
theorem IsL.psq {w : World} {v : Value} {g : GridF} (h : IsL 38 PSq 0 w v g) {i : Nat} (hi : i < g.length) :
    ∃ c gb go rb ro rc, v = .slice (some ⟨gb, go, none⟩) g.length c ∧ w.cell? ⟨gb, go + i, none⟩ = some (.slice (some ⟨rb, ro, none⟩) (g.getD i []).length rc) ∧ ∀ k, k < (g.getD i []).length → FrC IsQP w rb (ro + k * 4) ((g.getD i []).getD k 0) := by
  obtain ⟨a, c, e, _, hv⟩ := h.view
  obtain ⟨gb, go, u, rfl, hu, hr⟩ := hv i hi
  have e2 : g[i] = g.getD i [] := by simp [hi]
  rw [e2] at hr
  obtain ⟨rb, ro, rc, rfl, _, h3⟩ := hr
  exact ⟨c, gb, go, rb, ro, rc, e, hu, h3⟩
theorem flatq_take {g : GridF} {i : Nat} (hi : i < g.length) : (g.take (i + 1)).flatten = (g.take i).flatten ++ g.getD i [] := by
  rw [take_getDF hi, List.flatten_append]; simp
theorem flatq_le (g : GridF) (i : Nat) : (g.take i).flatten.length ≤ g.flatten.length := by
  conv => rhs; rw [← List.take_append_drop i g, List.flatten_append, List.length_append]
  omega
set_option maxRecDepth 100000 in
set_option maxHeartbeats 4000000 in
theorem concatQ_c (v : Value) (g : GridF) (w : World) (hv : IsL 38 PSq 0 w v g) (h0 : 0 < g.flatten.length) (hn : g.flatten.length ≤ 1099511627776) (hg : g.length ≤ 1099511627776) :
    Calls Tryz.prog 109 #[v] w fun e w' => (∃ v', e = .returned v' ∧ FrOwn IsQP 79 w w' v' g.flatten) ∧ Below w.heap.size w w' := by
  have HV := Lib.hid hv
  obtain ⟨va, vc, rfl, -⟩ : ∃ a c, v = .slice a g.length c ∧ True := by obtain ⟨a, c, e, _⟩ := hv.view; exact ⟨a, c, e, trivial⟩
  have HF := Lib.hid (fun i => flatq_le g i)
  have hB := Below.refl w.heap.size w
  clear hv
  go_enter Tryz.func109, Tryz.ntmps109
  go_wp2
  go_loopw [3, 11] (fun s x wr => ∃ i : Nat, i ≤ g.length ∧ x = .int .i64 i ∧ s = .int .i64 ((g.take i).flatten.length : Nat) ∧ Below w.heap.size w wr) (fun _ x _ => g.length - (intOf x).toNat)
  case atStart => exact ⟨0, Nat.zero_le _, rfl, by simp, hB⟩
  case round =>
    obtain ⟨i, hi, rfl, rfl, hBr⟩ := hrel
    by_cases hlt : i < g.length
    · have hltI : (i : Int) < (g.length : Int) := by omega
      obtain ⟨c', gb, go, rb, ro, rc, e2, hu, -⟩ := (HV.out.keep prs_psq hBr).psq hlt
      obtain ⟨rfl, -, rfl⟩ := Value.slice.inj e2
      have HS := Lib.hid (flatq_take hlt)
      have hS1 := HF.out (i + 1)
      rw [HS.out, List.length_append] at hS1
      obtain ⟨S, hSE⟩ : ∃ S, (g.take i).flatten.length = S := ⟨_, rfl⟩
      obtain ⟨m, hm⟩ : ∃ m, (g.getD i []).length = m := ⟨_, rfl⟩
      have HT := Lib.hid (show (g.take (i + 1)).flatten.length = S + m by rw [HS.out, List.length_append, hSE, hm])
      rw [hSE, hm] at hS1
      rw [hSE]
      rw [hm] at hu
      have hw : wrap64 ((S : Int) + (m : Int)) = (S : Int) + (m : Int) := by unfold wrap64; omega
      have hnn : ¬ ((S : Int) + (m : Int) < 0) := by omega
      have zu := cell_lt hu
      clear hSE hm e2 HS
      go_wp2
      exact ⟨⟨i + 1, by omega, by go_num, by rw [HT.out]; go_num, hBr⟩, by simp [intOf]; omega⟩
    · obtain rfl : i = g.length := by omega
      have hltI : ¬ (g.length : Int) < (g.length : Int) := by omega
      rw [List.take_length]
      obtain ⟨N, hN⟩ : ∃ N, g.flatten.length = N := ⟨_, rfl⟩
      rw [hN] at h0 hn ⊢
      have HN := Lib.hid hN
      have gc := fun W => growQ_c N W h0 hn
      clear hN
      have hBw := Below.refl wr.heap.size wr
      go_wp2_with fail
      refine (gc _).mono ?_
      rintro e w2 ⟨⟨v2, rfl, ho2⟩, hb2⟩
      have hb2' := bthen hBr (bthen (by repeat (first|exact bzR _ _|exact hBw|refine bzD ?_|refine bzN ?_|refine bzS ?_|refine bzA ?_)) hb2)
      have HO2 := Lib.hid (show FrOwn IsQP 79 w w2 v2 [] from ⟨[], ⟨ho2 _ hBr.size, hb2'⟩, fun k hk => absurd hk (by simp)⟩)
      clear ho2 gc hb2 hBw
      go_wp2
      go_loopw [6, 27] (fun v x wr => ∃ i : Nat, i ≤ g.length ∧ x = .int .i64 i ∧ Hid (FrOwn IsQP 79 w wr v (g.take i).flatten)) (fun _ x _ => g.length - (intOf x).toNat)
      case atStart => exact ⟨0, Nat.zero_le _, rfl, HO2⟩
      case round =>
        rename World => wq
        obtain ⟨i, hi, rfl, hO⟩ := hrel
        by_cases hlt : i < g.length
        · have hltI : (i : Int) < (g.length : Int) := by omega
          have hBq := hO.out.bel
          obtain ⟨c', gb, go, rb, ro, rc, e2, hu, hI⟩ := (HV.out.keep prs_psq hBq).psq hlt
          obtain ⟨rfl, -, rfl⟩ := Value.slice.inj e2
          have hS1 := HF.out (i + 1)
          have HS := Lib.hid (flatq_take hlt)
          rw [HS.out, List.length_append, HN.out] at hS1
          obtain ⟨L, hL⟩ : ∃ L, (g.take i).flatten = L := ⟨_, rfl⟩
          obtain ⟨l, hl⟩ : ∃ l, g.getD i [] = l := ⟨_, rfl⟩
          rw [hL] at hO HS hS1
          rw [hl] at HS hS1 hu hI
          have HI := Lib.hid hI
          have zu := cell_lt hu
          obtain ⟨oa, oc, hov⟩ := hO.out.ex
          subst hov
          clear hL hl e2 hI
          go_wp2_with (at_builtin; refine app_catQ (by rfl) (by rfl) hO.out HI.out (by rfl) (by rfl) (by omega) ?_)
          intro v' w8 HO8
          rw [← HS.out] at HO8
          go_wp2
          exact ⟨⟨i + 1, by omega, by go_num, HO8⟩, by simp [intOf]; omega⟩
        · obtain rfl : i = g.length := by omega
          rw [List.take_length] at hO
          have hBq := hO.out.bel
          obtain ⟨oa, oc, hov⟩ := hO.out.ex
          subst hov
          go_wp2
          go_ret
          exact ⟨⟨_, rfl, hO.out⟩, hBq⟩
end Go.Proofs.YtbmaffijncapiaaGreatDoor

/- Arguments as they come in, opened: a program; rows of int64; what their bulk gives. -/
namespace Go.Proofs.YtbmaffijncapiaaGreatDoor
open Go.ChangeShapes Go.WideShapes Go.ChangeAt Go.RowKit Go.Joins Go.Deep
set_option linter.unusedVariables false
set_option linter.unusedSimpArgs false
namespace bulks
theorem one_le {H : Type} (d : DataW H) : 1 ≤ Rows.uptoBulk d := by
  cases d with
  | lit l => cases l <;> simp [Rows.uptoBulk]
  | nil => simp [Rows.uptoBulk]
  | ptr d => simp [Rows.uptoBulk]
  | slice elems spare => simp [Rows.uptoBulk]
  | agg parts => simp [Rows.uptoBulk]
  | iface t d => simp [Rows.uptoBulk]
  | map entries => simp [Rows.uptoBulk]
  | held h => simp [Rows.uptoBulk]
theorem length_le {H : Type} (l : List (DataW H)) : l.length ≤ Rows.uptoBulkAll l := by
  induction l with
  | nil => simp [Rows.uptoBulkAll]
  | cons x r ih => have := one_le x; simp only [Rows.uptoBulkAll, List.length_cons]; omega
end bulks
section
variable {H : Type} {enc : TypeId × Value → H} {P : Program} {w : World} {base : Nat} {spare : Nat → Bool} {held : Bool}
theorem open_slice_fields {t e : TypeId} {fs : Array Field} {fuel : Nat} {cs : List Value} {x : DataW H × List MemPlace} (ht : P.underlying t = some (.slice e)) (he : P.underlying e = some (.struct fs))
    (hone : oneCellFields P fs = true) (hC : P.cellsOf e = fs.size) (h : DataW.trod enc P w base spare held fuel t cs = some x) :
    (cs = [.slice none 0 0] ∧ x = (.nil, [])) ∨
    ∃ (a : Addr) (len cap m : Nat) (D : Nat → DataW H) (Pl : Nat → List MemPlace), cs = [.slice (some a) len cap] ∧ base ≤ a.block ∧ len ≤ cap ∧ cap ≤ maxLen ∧ m = (if spare a.block then cap else len) ∧
      x = (.slice ((List.range len).map D) ((List.range (m - len)).map fun j => D (len + j)), MemPlace.row a (m * fs.size) ++ (List.range m).flatMap Pl) ∧
      ∀ i, i < m → ∃ (ys : List (DataW H × List MemPlace)) (n : Nat), D i = .agg (ys.map (·.1)) ∧ Pl i = ys.flatMap (·.2) ∧ ys.length = fs.size ∧
        ∀ (j : Nat) (f : Field), fs[j]? = some f → ∃ (v : Value) (y : DataW H × List MemPlace), w.cell? (a.add (i * fs.size + j)) = some v ∧ ys[j]? = some y ∧ DataW.trod enc P w base spare held n f.type [v] = some y := by
  rcases open_slice ht h with h0 | ⟨a, len, cap, m, n, D, Pl, hcs, hb, hl, hm, hmm, hx, hi⟩
  · exact .inl h0
  · refine .inr ⟨a, len, cap, m, D, Pl, hcs, hb, hl, hm, hmm, by rw [hC] at hx; exact hx, fun i him => ?_⟩
    obtain ⟨cs', hc, ht'⟩ := hi i him
    rw [hC] at hc
    obtain ⟨ys, n', hn', hy, hlen, hyl, hf⟩ := DataW.trod_struct he ht'
    obtain ⟨_, hcl, hat⟩ := World.cells?_some hc
    simp only [Prod.mk.injEq] at hy
    refine ⟨ys, n', hy.1, hy.2, hyl, fun j f hj => ?_⟩
    obtain ⟨ho, hk⟩ := hone_of hone j f hj
    have hjl : j < fs.size := (Array.getElem?_eq_some_iff.1 hj).1
    have hcell := hat j hjl
    have hv : cs'[j]? = some (cs'[j]'(by omega)) := List.getElem?_eq_getElem (by omega)
    have h1 := hf j f hj
    rw [ho, hk] at h1
    have hone' : (cs'.drop j).take 1 = [cs'[j]'(by omega)] := by
      rw [List.drop_eq_getElem_cons (by omega)]
      rfl
    rw [hone'] at h1
    have hys : ys[j]? = some (ys[j]'(by omega)) := List.getElem?_eq_getElem (by omega)
    refine ⟨_, _, ?_, hys, h1.trans hys⟩
    rw [← Go.Deep.add_add, hcell, hv]
end
theorem addr_plain {w : World} {a : Addr} {v : Value} (h : w.cell? a = some v) : a = ⟨a.block, a.off, none⟩ := by
  obtain ⟨b, o, s⟩ := a
  cases s with
  | none => rfl
  | some s =>
    simp only [World.cell?] at h
    split at h <;> simp at h
theorem add_plain (b o k : Nat) : (⟨b, o, none⟩ : Addr).add k = ⟨b, o + k, none⟩ := by
  unfold Addr.add; split
  · subst_vars; rfl
  · rfl
theorem plain_at {w : World} {a : Addr} {v : Value} (h : w.cell? (a.add 0) = some v) : ∃ b o, a = ⟨b, o, none⟩ := by
  have h2 : w.cell? a = some v := by simpa [Addr.add] using h
  exact ⟨_, _, addr_plain h2⟩
section
variable {H : Type} {enc : TypeId × Value → H} {W : World} {b0 : Nat} {r : Reach} {v : Value} {d : DataW H} {p : List MemPlace}
theorem open_intsV {fuel : Nat} {v : Value} {y : DataW H × List MemPlace} (h : DataW.trod enc Tryz.prog W 0 (fun _ => true) true fuel 23 [v] = some y) :
    ∃ a c L, v = .slice a (List.length L) c ∧ IntsV W a c L ∧ (a = none → L = []) ∧ L.length ≤ Rows.uptoBulk y.1 := by
  rcases open_ints Tryz.underlying23 Tryz.underlying3 (by kernel_rfl) h with ⟨hcs, rfl⟩ | ⟨a, len, cap, zs, hcs, _, hl, hm, hz, rfl, hc, hw⟩
  · simp at hcs; subst hcs
    exact ⟨_, _, [], rfl, .inl rfl, fun _ => rfl, by simp⟩
  · simp at hcs; subst hcs
    simp only [if_true] at hz
    have hlen : (zs.take len).length = len := by rw [List.length_take]; omega
    refine ⟨some a, cap, zs.take len, by rw [hlen], ?_, (fun e => by cases e), ?_⟩
    · by_cases h0 : len = 0
      · exact .inl (by subst h0; simp)
      · obtain ⟨b, o, rfl⟩ := plain_at (hc 0 (by omega))
        refine .inr ⟨b, o, rfl, by rw [hlen]; exact hl, fun k hk => ?_⟩
        rw [hlen] at hk
        have h9 := hc k (by omega)
        rw [add_plain] at h9
        rw [h9, List.getD_eq_getElem?_getD, List.getD_eq_getElem?_getD, List.getElem?_take_of_lt hk]
    · have := bulks.length_le (H := H) (lits .i64 (zs.take len))
      simp only [lits, List.length_map] at this
      simp only [Rows.uptoBulk, lits]; omega
theorem cells_ins : Tryz.prog.cellsOf 96 = 5 := by kernel_rfl
theorem open_insV {fuel : Nat} {v : Value} {y : DataW H × List MemPlace} (h : DataW.trod enc Tryz.prog W 0 (fun _ => true) true fuel 22 [v] = some y) :
    ∃ a c L, v = .slice a (List.length L) c ∧ InsV W a c L ∧ (a = none → L = []) ∧ L.length ≤ Rows.uptoBulk y.1 := by
  rcases open_slice_fields Tryz.underlying22 Tryz.underlying96 (by kernel_rfl) cells_ins h with ⟨hcs, rfl⟩ | ⟨x, n, c, m, D, Pl, hcs, _, hl, hm, hmm, rfl, hcell⟩
  · simp at hcs; subst hcs
    exact ⟨_, _, [], rfl, .inl rfl, fun _ => rfl, by simp⟩
  · simp at hcs; subst hcs
    simp only [if_true] at hmm
    subst hmm
    have hall : ∀ i, i < m → ∃ q : Ins, W.cell? (x.add (i * 5)) = some (.int .i64 q.op) ∧ W.cell? (x.add (i * 5 + 1)) = some (.int .i64 q.to) ∧ W.cell? (x.add (i * 5 + 2)) = some (.int .i64 q.a) ∧ W.cell? (x.add (i * 5 + 3)) = some (.int .i64 q.b) ∧ W.cell? (x.add (i * 5 + 4)) = some (.int .i64 q.c) := by
      intro i hi
      obtain ⟨ys, k, _, _, _, hf⟩ := hcell i hi
      obtain ⟨u0, y0, c0, _, t0⟩ := hf 0 _ rfl
      obtain ⟨u1, y1, c1, _, t1⟩ := hf 1 _ rfl
      obtain ⟨u2, y2, c2, _, t2⟩ := hf 2 _ rfl
      obtain ⟨u3, y3, c3, _, t3⟩ := hf 3 _ rfl
      obtain ⟨u4, y4, c4, _, t4⟩ := hf 4 _ rfl
      obtain ⟨a0, e0, _, _⟩ := DataW.trod_int Tryz.underlying3 t0
      obtain ⟨a1, e1, _, _⟩ := DataW.trod_int Tryz.underlying3 t1
      obtain ⟨a2, e2, _, _⟩ := DataW.trod_int Tryz.underlying3 t2
      obtain ⟨a3, e3, _, _⟩ := DataW.trod_int Tryz.underlying3 t3
      obtain ⟨a4, e4, _, _⟩ := DataW.trod_int Tryz.underlying3 t4
      simp at e0 e1 e2 e3 e4
      subst e0 e1 e2 e3 e4
      exact ⟨⟨a0, a1, a2, a3, a4⟩, c0, c1, c2, c3, c4⟩
    have hf : ∃ f : Nat → Ins, ∀ i, i < m → W.cell? (x.add (i * 5)) = some (.int .i64 (f i).op) ∧ W.cell? (x.add (i * 5 + 1)) = some (.int .i64 (f i).to) ∧ W.cell? (x.add (i * 5 + 2)) = some (.int .i64 (f i).a) ∧ W.cell? (x.add (i * 5 + 3)) = some (.int .i64 (f i).b) ∧ W.cell? (x.add (i * 5 + 4)) = some (.int .i64 (f i).c) := by
      refine ⟨fun i => if hi : i < m then (hall i hi).choose else default, fun i hi => ?_⟩
      simp only [dif_pos hi]
      exact (hall i hi).choose_spec
    obtain ⟨f, hf⟩ := hf
    refine ⟨some x, m, (List.range n).map f, by simp, ?_, (fun e => by cases e), ?_⟩
    · by_cases h0 : n = 0
      · exact .inl (by subst h0; simp)
      · obtain ⟨b, o, rfl⟩ := plain_at (by have := (hf 0 (by omega)).1; simpa using this)
        refine .inr ⟨b, o, rfl, by simpa using hl, fun k hk => ?_⟩
        rw [List.length_map, List.length_range] at hk
        obtain ⟨c0, c1, c2, c3, c4⟩ := hf k (by omega)
        rw [add_plain] at c0 c1 c2 c3 c4
        have e : ((List.range n).map f).getD k default = f k := by simp [hk]
        rw [e]
        exact ⟨c0, c1, c2, c3, c4⟩
    · have := bulks.length_le (H := H) ((List.range n).map D)
      simp only [List.length_map, List.length_range] at this ⊢
      simp only [Rows.uptoBulk]; omega
theorem cells_prog : Tryz.prog.cellsOf 25 = 4 := by kernel_rfl
set_option maxRecDepth 100000 in
theorem open_prog (hv : Value.okWide Tryz.prog W r b0 25 v) (h : DataW.Trod enc Tryz.prog W 0 (fun _ => true) true 25 v d p) :
    ∃ ins regs ca oa cc oc code outs, v = .agg #[.int .i64 ins, .int .i64 regs, .slice ca (List.length code) cc, .slice oa (List.length outs) oc] ∧ InsV W ca cc code ∧ IntsV W oa oc outs ∧ (ca = none → code = []) ∧ (oa = none → outs = []) ∧ code.length + outs.length ≤ Rows.uptoBulk d := by
  obtain ⟨v0, v1, v2, v3, y0, y1, y2, y3, n, rfl, rfl, rfl, t0, t1, t2, t3⟩ := open_agg4 Tryz.underlying25 (by kernel_rfl) cells_prog hv h
  obtain ⟨a0, e0, rfl, _⟩ := DataW.trod_int Tryz.underlying3 t0
  obtain ⟨a1, e1, rfl, _⟩ := DataW.trod_int Tryz.underlying3 t1
  simp at e0 e1
  subst e0 e1
  obtain ⟨ca, cc, code, rfl, hc, hcn, hcl⟩ := open_insV t2
  obtain ⟨oa, oc, outs, rfl, ho, hon, hol⟩ := open_intsV t3
  exact ⟨a0, a1, ca, oa, cc, oc, code, outs, rfl, hc, ho, hcn, hon, by simp only [Rows.uptoBulk, Rows.uptoBulkAll]; omega⟩
end
end Go.Proofs.YtbmaffijncapiaaGreatDoor

/- Arguments as they come in, whatever their bulk: rows of int64, each of which lies in memory. -/
namespace Go.Proofs.YtbmaffijncapiaaGreatDoor
open Go.ChangeShapes Go.WideShapes Go.ChangeAt Go.RowKit Go.Joins Go.Deep
set_option linter.unusedVariables false
set_option linter.unusedSimpArgs false
section
variable {H : Type} {enc : TypeId × Value → H} {W : World} {b0 : Nat} {r : Reach} {v : Value} {d : DataW H} {p : List MemPlace}
end
end Go.Proofs.YtbmaffijncapiaaGreatDoor

