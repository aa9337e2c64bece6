/- Texts of this seat, laid together: MxJ, MxK, IntM. Each opens with its own remark, which says what it proves, and under which conditions. -/
import Derived.Test.YthlphfjmdgcpdaaGreatDoorW21
import Derived.Test.YthlphfjmdgcpdaaGreatDoorW20
import Derived.Lib.AppendZeros
import Derived.Test.YthlphfjmdgcpdaaGreatDoorW16
import Derived.Test.YthlphfjmdgcpdaaGreatDoorW14
import Derived.Test.YthlphfjmdgcpdaaGreatDoorW06
import Derived.Deep.DeepFit
import Derived.Deep.DeepCutAuto
set_option linter.unusedVariables false
set_option linter.unusedSimpArgs false
/- matrix: det, Det. -/
namespace Go.Proofs.YthlphfjmdgcpdaaGreatDoor
open Num
open Go.ChangeShapes Go.WideShapes Go.ChangeAt Go.RowKit
set_option linter.unusedVariables false
set_option linter.unusedSimpArgs false
attribute [local go_sem ↓] Go.wp_at_zero Go.wp_at_succ
set_option maxRecDepth 100000 in
set_option maxHeartbeats 4000000 in
theorem det_c (v : Value) (g : Grid) (K : Nat) (w : World) (hv : IsL 59 (PRow 0) 0 w v g) (hr : Rct g g.length) (hn : g.length ≤ 1099511627775) (hK1 : 1 ≤ K) (hbd : BdM K g) (hK : kb K g.length ≤ 4294967296) :
    Calls Tryz.prog 55 #[v] w fun e w' => (∃ u, e = .returned u ∧ IsInt w' u (Det.detE g.length (gat g))) ∧ Below w.heap.size w w' := by
  have ec := fun W (q : Below w.heap.size w W) => elim_c v g g.length g.length K W (hv.keep (prs_prow 0) q) hr hn hn (Nat.le_refl _) (fun h => h) (fun h => h) hK1 hbd hK
  have EC := Lib.hid ec
  obtain ⟨ga, gc, rfl, -⟩ := hv
  unfold ElimPost at EC
  obtain ⟨s, hs⟩ : ∃ s, Det.elR g.length (gat g) g.length = s := ⟨_, rfl⟩
  have HD := Lib.hid (show Det.detE g.length (gat g) = if s.p.length < g.length then 0 else s.last * s.sign from by unfold Det.detE; rw [hs])
  rw [hs] at EC
  clear ec hs hr hK1 hbd hK
  obtain ⟨p, hp⟩ : ∃ p, s.p = p := ⟨_, rfl⟩
  obtain ⟨z, hz⟩ : ∃ z, s.last * s.sign = z := ⟨_, rfl⟩
  rw [hp, hz] at EC HD
  clear hp hz
  obtain ⟨n, hn'⟩ : ∃ n, g.length = n := ⟨_, rfl⟩
  rw [hn'] at EC hn HD ⊢
  clear hn'
  have hB := Below.refl w.heap.size w
  go_enter Tryz.func55, Tryz.ntmps55
  go_wp2_with fail
  refine (EC.out _ (by repeat (first | exact Below.refl _ _ | exact hB | refine Below.drew ?_ | refine below_drewN ?_ _ | refine bset ?_ (by simp <;> omega) _ | refine bal ?_ _))).mono ?_
  rintro e w1 ⟨⟨a, c, pa, pc, u, rfl, -, hu⟩, hb1⟩
  have r0 : w1.cell? ⟨w.heap.size, 0, none⟩ = some (.bool false) := bkc hb1
  have zr0 := cell_lt r0
  have r0f : w1.frozen? ⟨w.heap.size, 0, none⟩ = false := bkcf (v := .bool false) hb1
  have r1 : w1.cell? ⟨w.heap.size, 1, none⟩ = some (.slice none 0 0) := bkc hb1
  have r1f : w1.frozen? ⟨w.heap.size, 1, none⟩ = false := bkcf (v := .slice none 0 0) hb1
  have hB : Below w.heap.size w w1 := bthen (by repeat (first | exact Below.refl _ _ | exact hB | refine Below.drew ?_ | refine below_drewN ?_ _ | refine bset ?_ (by simp <;> omega) _ | refine bal ?_ _)) hb1
  have hz : w.heap.size ≤ w1.heap.size := hB.size
  have HU := Lib.hid hu
  obtain ⟨nu, au, cu, lu, rfl, -⟩ := hu
  unfold iv at *
  have hB1 : Below w.heap.size w w1 := bthen (by repeat (first | exact Below.refl _ _ | exact hB | refine Below.drew ?_ | refine below_drewN ?_ _ | refine bset ?_ (by simp <;> omega) _ | refine bal ?_ _)) hb1
  have zr := cell_lt r0
  by_cases hlt : p.length < n
  · have hltI : (p.length : Int) < (n : Int) := by omega
    clear EC HU
    go_wp2
    refine bodyPost_ret (v := .agg #[.bool false, .slice none 0 0]) (by simp [results, Tryz.results55, go_sem, *]) rfl ⟨⟨_, rfl, by rw [HD.out, if_pos hlt]; exact isInt_zero _⟩, ?_⟩
    repeat (first | exact Below.refl _ _ | exact hB1 | refine Below.drew ?_ | refine below_drewN ?_ _ | refine bset ?_ (by simp <;> omega) _ | refine bal ?_ _)
  · have hltI : ¬ (p.length : Int) < (n : Int) := by omega
    have hp := Lib.hid ((HU.out.put2 r0 r1 (.bool nu) (.slice au lu.length cu)).keep (bal (Below.refl _ _) (.cells #[.bool nu, .slice au lu.length cu] 36)))
    clear EC
    go_wp2
    refine bodyPost_ret (v := .agg #[.bool nu, .slice au lu.length cu]) (by simp [results, Tryz.results55, go_sem, *]) rfl ⟨⟨_, rfl, ?_⟩, ?_⟩
    · rw [HD.out, if_neg hlt]; exact hp.out
    repeat (first | exact Below.refl _ _ | exact hB1 | refine Below.drew ?_ | refine below_drewN ?_ _ | refine bset ?_ (by simp <;> omega) _ | refine bal ?_ _)
end Go.Proofs.YthlphfjmdgcpdaaGreatDoor

/- slices.Grow, slices.Concat at rows of numbers. -/
namespace Go.Proofs.YthlphfjmdgcpdaaGreatDoor
open Num
open Go.ChangeShapes Go.WideShapes Go.ChangeAt Go.RowKit
set_option linter.unusedVariables false
set_option linter.unusedSimpArgs false
attribute [local go_sem ↓] Go.wp_at_zero Go.wp_at_succ
theorem app_lt2 {L l : List Int} {k : Nat} (h : k < L.length) : (L ++ l).getD k 0 = L.getD k 0 := by simp [List.getD_eq_getElem?_getD, List.getElem?_append, h]
theorem app_ge2 {L l : List Int} {k : Nat} (h : L.length ≤ k) : (L ++ l).getD k 0 = l.getD (k - L.length) 0 := by
  simp [List.getD_eq_getElem?_getD, List.getElem?_append_right h]
/-- a row is appended to a row of the call's own -/
theorem app_cat {ops : Array Oper} {rest : List Oper} {o : Oper} {a : Act} {Q : Exit → Act → World → Prop} {w0 wr : World} {v : Value} {L l : List Int} {b off c : Nat} {s x : Operand} (hgd : o.guard = none)
    (ho : o.op = .call { callee := .builtin .append, args := #[s, x], argTypes := #[59, 59] })
    (hO : OwnF IsInt 36 w0 wr v L.length (fun k => L.getD k 0)) (hl : IntsF IsInt wr b off l.length (fun k => l.getD k 0)) (hs : a.eval s = v) (hx : a.eval x = .slice (some ⟨b, off, none⟩) l.length c) (hn : L.length + l.length ≤ 1099511627776)
    (h : ∀ v' w', Hid (OwnF IsInt 36 w0 w' v' (L ++ l).length (fun k => (L ++ l).getD k 0)) → wpList Tryz.prog ops Q rest (a.put o.dst v') w') : wpList Tryz.prog ops Q (o :: rest) a wr := by
  obtain ⟨i0, z0, hi, hz0, hz1, hz2, hz3⟩ := elInt.info
  obtain ⟨xs, hO1, hO2⟩ := hO
  refine wpList_append_own _ hgd s x 59 ho w0.heap.size 36 i0 z0 2 32 Tryz.underlying59 hi hz0 hz1 hz2 hz3 (by decide) v L.length xs hs hO1.1 ⟨b, off, none⟩ l.length c (cellsAt wr b off (l.length * 2)) hx (cellsAt_len _ _ _ _)
    (cellsAt_at (Below.refl _ _) fun j hj => by obtain ⟨v, hv, _⟩ := intsF_cells hl j hj; exact ⟨v, hv⟩) (cellsAt_all (intsF_cells hl)) (by unfold maxLen; omega) (by omega) hO1.2.size ?_
  intro v' w' hown hg _
  have hbel := below_append (wr := wr) hO1.2 hO1.1 hg
  have hlim : Lim wr w' := (Lim.refl wr).grown hg fun g hg' ht => by
    rw [own_typ hO1 hg'] at ht
    exact absurd (Option.some.inj ht) (by decide)
  refine h v' w' (Lib.hid ⟨_, ⟨by rw [List.length_append]; exact hown, hbel⟩, fun k hk => ?_⟩)
  have hxl : xs.length = L.length * 2 := hO1.1.1
  rw [List.length_append] at hk
  by_cases e : k < L.length
  · obtain ⟨nb, ad, len, cp, k1, k2, k3⟩ := hO2 k e
    exact ⟨nb, ad, len, cp, by rw [List.getElem?_append_left (by omega)]; exact k1, by rw [List.getElem?_append_left (by omega)]; exact k2, by show IsInt _ _ ((L ++ l).getD k 0); rw [app_lt2 e]; exact lims_int _ _ _ _ k3 hlim⟩
  · obtain ⟨nb, ad, len, cp, k1, k2, k3⟩ := hl (k - L.length) (by omega)
    refine ⟨nb, ad, len, cp, ?_, ?_, by show IsInt _ _ ((L ++ l).getD k 0); rw [app_ge2 (by omega)]; exact lims_int _ _ _ _ k3 hlim⟩
    · rw [List.getElem?_append_right (by omega), hxl, show k * 2 - L.length * 2 = (k - L.length) * 2 by omega]; exact cellsAt_get (by omega) k1
    · rw [List.getElem?_append_right (by omega), hxl, show k * 2 + 1 - L.length * 2 = (k - L.length) * 2 + 1 by omega]; exact cellsAt_get (by omega) k2
set_option maxRecDepth 100000 in
set_option maxHeartbeats 2000000 in
theorem grow_c (n : Nat) (w : World) (h0 : 0 < n) (hn : n ≤ 1099511627776) :
    Calls Tryz.prog 121 #[.slice none 0 0, .int .i64 (n : Nat)] w fun e w' => (∃ v, e = .returned v ∧ ∀ base, base ≤ w.heap.size → w'.ownsRow base 36 2 v 0 []) ∧ Below w.heap.size w w' := by
  obtain ⟨i0, z0, hi, hz0, hz1, hz2, hz3⟩ := elInt.info
  have hB := Below.refl w.heap.size w
  have hr := fun ty => Lib.run_append_nil_zeros w 59 3 ty 36 i0 z0 .i64 .i64 Tryz.underlying59 Tryz.underlying3 hi hz0 n h0 (by omega) (by omega) (by rw [hz2]; omega)
  have h1 : ¬ ((n : Int) < 0) := by omega
  have h2 : (0 : Int) < (n : Int) := by omega
  have hcap : n ≤ grownCap w n 0 36 := grownCap_ge _ _ _ _
  have hcm : grownCap w n 0 36 ≤ maxLen := grownCap_le_maxLen _ _ _ _ (by unfold maxLen; omega)
  obtain ⟨G, hG⟩ : ∃ G, grownCap w n 0 36 = G := ⟨_, rfl⟩
  rw [hG] at hcap hcm hr
  have HO := Lib.hid (show ∀ base, base ≤ w.heap.size → (w.drew.alloc (.cells (Builtin.zeroCells z0.cells n ++ Builtin.zeroCells z0.cells (G - n)) 36)).ownsRow base 36 2 (.slice (some ⟨w.heap.size, 0, none⟩) 0 G) 0 [] from fun base hb =>
    ⟨rfl, .inr ⟨w.heap.size, G, _, rfl, hb, (MapKept.heap_alloc w.drew _).1, Nat.zero_le _, hcm, by rw [Array.size_append, size_zeroCells, size_zeroCells, hz3, ← Nat.add_mul]; congr 1; omega, rfl⟩⟩)
  have hBa : Below w.heap.size w (w.drew.alloc (.cells (Builtin.zeroCells z0.cells n ++ Builtin.zeroCells z0.cells (G - n)) 36)) := bal (Below.refl _ _).drew _
  obtain ⟨wz, hwz⟩ : ∃ wz, (w.drew.alloc (.cells (Builtin.zeroCells z0.cells n ++ Builtin.zeroCells z0.cells (G - n)) 36)) = wz := ⟨_, rfl⟩
  rw [hwz] at HO hBa hr
  have hG0 : (0 : Int) ≤ (G : Int) := by omega
  have HR := Lib.hid hr
  clear hr hwz hG hi hz0 hz1 hz2 hz3
  go_enter Tryz.func121, Tryz.ntmps121
  go_wp2_with (at_builtin; refine Lib.wpList_append_run _ (by rfl) _ _ 59 3 rfl _ _ rfl rfl _ _ (HR.out _) ?_)
  try go_wp2
  go_ret
  exact ⟨⟨_, rfl, HO.out⟩, hBa⟩
/-- a row in memory, not nil -/
def PSl (w : World) (u : Value) (l : List Int) : Prop := ∃ b off c, u = .slice (some ⟨b, off, none⟩) l.length c ∧ typOf w b = some 36 ∧ IntsF IsInt w b off l.length (fun k => l.getD k 0)
theorem prs_psl : Prs (fun t => t = 121 ∨ t = 36) PSl where
  one := fun ⟨b, off, c, e, _⟩ => by rw [e]; rfl
  kp := fun {w w' u x} ⟨b, off, c, e, ht, hi⟩ k => ⟨b, off, c, e, k.typ ht (.inr rfl), hi.stay lims_int (k _ _ ht (.inr rfl)) (k.lim (.inl rfl))⟩
theorem IsL.psl {w : World} {v : Value} {g : Grid} (h : IsL 59 PSl 0 w v g) {i : Nat} (hi : i < g.length) :
    ∃ c gb go rb ro rc, v = .slice (some ⟨gb, go, none⟩) g.length c ∧ w.cell? ⟨gb, go + i, none⟩ = some (.slice (some ⟨rb, ro, none⟩) (g.getD i []).length rc) ∧ IntsF IsInt w rb ro (g.getD i []).length (fun k => (g.getD i []).getD k 0) := by
  obtain ⟨a, c, e, _, hv⟩ := h.view
  obtain ⟨gb, go, u, rfl, hu, hr⟩ := hv i hi
  have e2 : g[i] = g.getD i [] := by simp [hi]
  rw [e2] at hr
  obtain ⟨rb, ro, rc, rfl, _, h3⟩ := hr
  exact ⟨c, gb, go, rb, ro, rc, e, hu, h3⟩
theorem flat_take {g : Grid} {i : Nat} (hi : i < g.length) : (g.take (i + 1)).flatten = (g.take i).flatten ++ g.getD i [] := by
  rw [take_getD [] hi, List.flatten_append]; simp
theorem flat_le (g : Grid) (i : Nat) : (g.take i).flatten.length ≤ g.flatten.length := by
  conv => rhs; rw [← List.take_append_drop i g, List.flatten_append, List.length_append]
  omega
set_option maxRecDepth 100000 in
set_option maxHeartbeats 4000000 in
theorem concat_c (v : Value) (g : Grid) (w : World) (hv : IsL 59 PSl 0 w v g) (h0 : 0 < g.flatten.length) (hn : g.flatten.length ≤ 1099511627776) (hg : g.length ≤ 1099511627776) :
    Calls Tryz.prog 78 #[v] w fun e w' => (∃ v', e = .returned v' ∧ RowO IsInt 36 w.heap.size w' v' g.flatten) ∧ Below w.heap.size w w' := by
  have HV := Lib.hid hv
  obtain ⟨va, vc, rfl, -⟩ : ∃ a c, v = .slice a g.length c ∧ True := by obtain ⟨a, c, e, _⟩ := hv.view; exact ⟨a, c, e, trivial⟩
  have HF := Lib.hid (fun i => flat_le g i)
  have hB := Below.refl w.heap.size w
  clear hv
  go_enter Tryz.func78, Tryz.ntmps78
  go_wp2
  go_loopw [3, 11] (fun s x wr => ∃ i : Nat, i ≤ g.length ∧ x = .int .i64 i ∧ s = .int .i64 ((g.take i).flatten.length : Nat) ∧ Below w.heap.size w wr) (fun _ x _ => g.length - (intOf x).toNat)
  case atStart => exact ⟨0, Nat.zero_le _, rfl, by simp, hB⟩
  case round =>
    obtain ⟨i, hi, rfl, rfl, hBr⟩ := hrel
    by_cases hlt : i < g.length
    · have hltI : (i : Int) < (g.length : Int) := by omega
      obtain ⟨c', gb, go, rb, ro, rc, e2, hu, -⟩ := (HV.out.keep prs_psl hBr).psl hlt
      obtain ⟨rfl, -, rfl⟩ := Value.slice.inj e2
      have HS := Lib.hid (flat_take hlt)
      have hS1 := HF.out (i + 1)
      rw [HS.out, List.length_append] at hS1
      obtain ⟨S, hSE⟩ : ∃ S, (g.take i).flatten.length = S := ⟨_, rfl⟩
      obtain ⟨m, hm⟩ : ∃ m, (g.getD i []).length = m := ⟨_, rfl⟩
      have HT := Lib.hid (show (g.take (i + 1)).flatten.length = S + m by rw [HS.out, List.length_append, hSE, hm])
      rw [hSE, hm] at hS1
      rw [hSE]
      rw [hm] at hu
      have hw : wrap64 ((S : Int) + (m : Int)) = (S : Int) + (m : Int) := by unfold wrap64; omega
      have hnn : ¬ ((S : Int) + (m : Int) < 0) := by omega
      have zu := cell_lt hu
      clear hSE hm e2 HS
      go_wp2
      exact ⟨⟨i + 1, by omega, by go_num, by rw [HT.out]; go_num, hBr⟩, by simp [intOf]; omega⟩
    · obtain rfl : i = g.length := by omega
      have hltI : ¬ (g.length : Int) < (g.length : Int) := by omega
      rw [List.take_length]
      obtain ⟨N, hN⟩ : ∃ N, g.flatten.length = N := ⟨_, rfl⟩
      rw [hN] at h0 hn ⊢
      have HN := Lib.hid hN
      have gc := fun W => grow_c N W h0 hn
      clear hN
      have hBw := Below.refl wr.heap.size wr
      go_wp2_with fail
      refine (gc _).mono ?_
      rintro e w2 ⟨⟨v2, rfl, ho2⟩, hb2⟩
      have hb2' := bthen hBr (bthen (by repeat (first | exact Below.refl _ _ | exact hBw | refine Below.drew ?_ | refine below_drewN ?_ _ | refine bset ?_ (by simp <;> omega) _ | refine bal ?_ _)) hb2)
      have HO2 := Lib.hid (show OwnF IsInt 36 w w2 v2 ([] : List Int).length (fun k => ([] : List Int).getD k 0) from ⟨[], ⟨ho2 _ hBr.size, hb2'⟩, fun k hk => absurd hk (by simp)⟩)
      clear ho2 gc hb2 hBw
      go_wp2
      go_loopw [6, 27] (fun v x wr => ∃ i : Nat, i ≤ g.length ∧ x = .int .i64 i ∧ Hid (OwnF IsInt 36 w wr v (g.take i).flatten.length (fun k => (g.take i).flatten.getD k 0))) (fun _ x _ => g.length - (intOf x).toNat)
      case atStart => exact ⟨0, Nat.zero_le _, rfl, HO2⟩
      case round =>
        rename World => wq
        obtain ⟨i, hi, rfl, hO⟩ := hrel
        by_cases hlt : i < g.length
        · have hltI : (i : Int) < (g.length : Int) := by omega
          have hBq := hO.out.bel
          obtain ⟨c', gb, go, rb, ro, rc, e2, hu, hI⟩ := (HV.out.keep prs_psl hBq).psl hlt
          obtain ⟨rfl, -, rfl⟩ := Value.slice.inj e2
          have hS1 := HF.out (i + 1)
          have HS := Lib.hid (flat_take hlt)
          rw [HS.out, List.length_append, HN.out] at hS1
          obtain ⟨L, hL⟩ : ∃ L, (g.take i).flatten = L := ⟨_, rfl⟩
          obtain ⟨l, hl⟩ : ∃ l, g.getD i [] = l := ⟨_, rfl⟩
          rw [hL] at hO HS hS1
          rw [hl] at HS hS1 hu hI
          have HI := Lib.hid hI
          have zu := cell_lt hu
          obtain ⟨oa, oc, hov⟩ : ∃ a c, _ = Value.slice a L.length c := by obtain ⟨a, c, h, _⟩ := hO.out.view; exact ⟨a, c, h⟩
          subst hov
          clear hL hl e2 hI
          go_wp2_with (at_builtin; refine app_cat (by rfl) (by rfl) hO.out HI.out (by rfl) (by rfl) (by omega) ?_)
          intro v' w8 HO7
          have HO8 := Lib.hid (show OwnF IsInt 36 w w8 v' (L ++ l).length (fun k => (L ++ l).getD k 0) from by rw [List.length_append]; exact HO7.out)
          rw [← HS.out] at HO8
          clear HO7
          go_wp2
          exact ⟨⟨i + 1, by omega, by go_num, HO8⟩, by simp [intOf]; omega⟩
        · obtain rfl : i = g.length := by omega
          rw [List.take_length] at hO
          have hBq := hO.out.bel
          have HR := Lib.hid (OwnF.rowO (w0 := w) hO.out)
          obtain ⟨oa, oc, hov⟩ : ∃ a c, _ = Value.slice a g.flatten.length c := by obtain ⟨a, c, h, _⟩ := hO.out.view; exact ⟨a, c, h⟩
          subst hov
          clear hO
          go_wp2
          go_ret
          exact ⟨⟨_, rfl, HR.out⟩, hBq⟩
end Go.Proofs.YthlphfjmdgcpdaaGreatDoor

/- integer: Abs's value; Gcd. -/
namespace Go.Proofs.YthlphfjmdgcpdaaGreatDoor
open Num
open Go.ChangeShapes Go.WideShapes Go.ChangeAt Go.RowKit
set_option linter.unusedVariables false
set_option linter.unusedSimpArgs false
attribute [local go_sem ↓] Go.wp_at_zero Go.wp_at_succ
/-- what divides both -/
def gcdI (x y : Int) : Int := (Nat.gcd x.natAbs y.natAbs : Nat)
theorem gcdI_bd {k : Nat} {x y : Int} (hx : Bd k x) (hy : Bd k y) : Bd k (gcdI x y) := by
  unfold Bd gcdI at *
  rw [Int.natAbs_natCast]
  by_cases h : x.natAbs = 0
  · rw [h, Nat.gcd_zero_left]; exact hy
  · exact Nat.lt_of_le_of_lt (Nat.gcd_le_left _ (by omega)) hx
theorem gcd_step (m n : Nat) : Nat.gcd n (m % n) = Nat.gcd m n := by
  rw [Nat.gcd_comm n (m % n), ← Nat.gcd_rec n m, Nat.gcd_comm]
/-- what divides all -/
def contL (l : List Int) : Int := l.foldl gcdI 0
theorem contL_snoc (l : List Int) (x : Int) : contL (l ++ [x]) = gcdI (contL l) x := by simp [contL]
theorem contL_take {l : List Int} {j : Nat} (hj : j < l.length) : contL (l.take (j + 1)) = gcdI (contL (l.take j)) (l.getD j 0) := by
  rw [List.take_succ_eq_append_getElem hj, contL_snoc]; simp [hj]
theorem gcdI_one (x : Int) : gcdI 1 x = 1 := by
  unfold gcdI; rw [show (1 : Int).natAbs = 1 from rfl, Nat.gcd_one_left]; rfl
theorem foldl_one (l : List Int) : l.foldl gcdI 1 = 1 := by
  induction l with
  | nil => rfl
  | cons x l ih => rw [List.foldl_cons, gcdI_one]; exact ih
theorem contL_one {l : List Int} {j : Nat} (h : contL (l.take j) = 1) : contL l = 1 := by
  unfold contL at *
  rw [← List.take_append_drop j l, List.foldl_append, h, foldl_one]
theorem contL_bd {l : List Int} {k : Nat} (h : ∀ j, Bd k (l.getD j 0)) : ∀ j, j ≤ l.length → Bd k (contL (l.take j)) := by
  intro j
  induction j with
  | zero => intro _; exact Nat.pow_pos (by omega)
  | succ j ih =>
    intro hj
    rw [contL_take (by omega)]
    exact gcdI_bd (ih (by omega)) (h j)
theorem tcell {W w1 : World} (hb : Below W.heap.size W w1) : ∀ b, b < W.heap.size → typOf w1 b = typOf W b := fun b h => typ_of_block (hb.block b h)
theorem typ_alloc_lt {w : World} {o : Obj} {b : Nat} (h : b < w.heap.size) : typOf (w.alloc o) b = typOf w b := typ_of_block ((bal (Below.refl _ _) o).block b h)
theorem typ_alloc_eq {w : World} {c : Array Value} {t : TypeId} {b : Nat} (h : b = w.heap.size) : typOf (w.alloc (.cells c t)) b = some t := typ_fresh h
theorem typ_drew (w : World) (b : Nat) : typOf w.drew b = typOf w b := rfl
theorem VarI.far {ub vb : Nat} {z m : Int} {W : World} (h : VarI ub m W) (k : VarI vb z W) (hne : ub ≠ vb) (x : Bool) (y : Option Addr) (p q : Nat) : VarI ub m ((W.setCell ⟨vb, 0, none⟩ (.bool x)).setCell ⟨vb, 1, none⟩ (.slice y p q)) := by
  obtain ⟨ht, n, a, ln, c, h0, h1, f0, f1, hi⟩ := h
  obtain ⟨-, n', a', ln', c', k0, k1, -, -, -⟩ := k
  exact ⟨by rw [typ_set, typ_set]; exact ht, n, a, ln, c, cell_far (cell_far h0 (addr_ne (Ne.symm hne)) _) (addr_ne (Ne.symm hne)) _, cell_far (cell_far h1 (addr_ne (Ne.symm hne)) _) (addr_ne (Ne.symm hne)) _, by rw [World.frozen?_setCell, World.frozen?_setCell]; exact f0, by rw [World.frozen?_setCell, World.frozen?_setCell]; exact f1, hi.put2 k0 k1 _ _⟩
theorem cell_far2 {W : World} {q o vb : Nat} {v : Value} (h : W.cell? ⟨q, o, none⟩ = some v) (hne : ¬ vb = q) (x : Bool) (y : Option Addr) (p r : Nat) : ((W.setCell ⟨vb, 0, none⟩ (.bool x)).setCell ⟨vb, 1, none⟩ (.slice y p r)).cell? ⟨q, o, none⟩ = some v :=
  cell_far (cell_far h (addr_ne hne) _) (addr_ne hne) _
set_option maxRecDepth 100000 in
set_option maxHeartbeats 1000000 in
theorem made_f (a : Option Addr) (ca k : Nat) (w : World) :
    Calls Tryz.prog 115 #[.bool false, .slice a k ca] w fun e w' => e = .returned (.agg #[.bool false, .slice a k ca]) ∧ Below w.heap.size w w' := by
  go_enter Tryz.func115, Tryz.ntmps115
  go_wp2
  refine bodyPost_ret (v := .agg #[.bool false, .slice a k ca]) (by simp [results, Tryz.results115, go_sem, *]) rfl ⟨rfl, ?_⟩
  repeat (first | exact Below.refl _ _ | exact Below.refl _ _ | refine Below.drew ?_ | refine below_drewN ?_ _ | refine bset ?_ (by simp <;> omega) _ | refine bal ?_ _)
set_option maxRecDepth 100000 in
set_option maxHeartbeats 2000000 in
theorem abs_v (n : Bool) (a : Option Addr) (c k : Nat) (w : World) :
    Calls Tryz.prog 122 #[.agg #[.bool n, .slice a k c]] w fun e w' => e = .returned (.agg #[.bool false, .slice a k c]) ∧ Below w.heap.size w w' := by
  have mc := fun W => made_f a c k W
  have hB0 := Below.refl w.heap.size w
  go_enter Tryz.func122, Tryz.ntmps122
  go_wp2_with fail
  refine (mc _).mono ?_
  rintro e w1 ⟨rfl, hb1⟩
  have r0 : w1.cell? ⟨w.heap.size + 1, 0, none⟩ = some (.bool false) := bkc hb1
  have zr0 := cell_lt r0
  have r0f : w1.frozen? ⟨w.heap.size + 1, 0, none⟩ = false := bkcf (v := .bool false) hb1
  have r1 : w1.cell? ⟨w.heap.size + 1, 1, none⟩ = some (.slice none 0 0) := bkc hb1
  have r1f : w1.frozen? ⟨w.heap.size + 1, 1, none⟩ = false := bkcf (v := .slice none 0 0) hb1
  have hB : Below w.heap.size w w1 := bthen (by repeat (first | exact Below.refl _ _ | exact hB | refine Below.drew ?_ | refine below_drewN ?_ _ | refine bset ?_ (by simp <;> omega) _ | refine bal ?_ _)) hb1
  have hz : w.heap.size ≤ w1.heap.size := hB.size
  go_wp2
  refine bodyPost_ret (v := .agg #[.bool false, .slice a k c]) (by simp [results, Tryz.results122, go_sem, *]) rfl ⟨rfl, ?_⟩
  repeat (first | exact Below.refl _ _ | exact hB | refine Below.drew ?_ | refine below_drewN ?_ _ | refine bset ?_ (by simp <;> omega) _ | refine bal ?_ _)
theorem IsInt.abs {w : World} {n : Bool} {a : Option Addr} {k c : Nat} {x : Int} (h : IsInt w (.agg #[.bool n, .slice a k c]) x) : IsInt w (.agg #[.bool false, .slice a k c]) (x.natAbs : Int) := by
  obtain ⟨n1, a1, c1, l1, e, u1, g1, s1, rfl⟩ := h
  unfold iv at e
  cases e
  exact ⟨false, a, c, l1, rfl, u1, g1, fun h => (by cases h), by rw [sg_abs]; rfl⟩
set_option maxRecDepth 100000 in
set_option maxHeartbeats 16000000 in
theorem gcdI_c (vx vy : Value) (x y : Int) (k : Nat) (w : World) (hx : IsInt w vx x) (hy : IsInt w vy y) (bx : Bd k x) (by' : Bd k y) (hk : k ≤ 17179869184) :
    Calls Tryz.prog 80 #[vx, vy] w fun e w' => (∃ u, e = .returned u ∧ IsInt w' u (gcdI x y)) ∧ Below w.heap.size w w' := by
  have HX := Lib.hid hx
  have HY := Lib.hid hy
  obtain ⟨nx, ax, cx, lx, rfl, -⟩ := hx
  obtain ⟨ny, ay, cy, ly, rfl, -⟩ := hy
  unfold iv at *
  obtain ⟨kx, hkx⟩ : ∃ m, lx.length = m := ⟨_, rfl⟩
  obtain ⟨ky, hky⟩ : ∃ m, ly.length = m := ⟨_, rfl⟩
  rw [hkx] at HX ⊢
  rw [hky] at HY ⊢
  clear hkx hky
  have HA := Lib.hid HX.out.abs
  have HB := Lib.hid HY.out.abs
  have HBD := Lib.hid (show x.natAbs < 2 ^ k ∧ y.natAbs < 2 ^ k from ⟨bx, by'⟩)
  unfold gcdI
  clear HX HY bx by'
  obtain ⟨m, hm⟩ : ∃ m, x.natAbs = m := ⟨_, rfl⟩
  obtain ⟨n, hn⟩ : ∃ n, y.natAbs = n := ⟨_, rfl⟩
  rw [hm] at HA HBD ⊢
  rw [hn] at HB HBD ⊢
  clear hm hn
  have hB := Below.refl w.heap.size w
  go_enter Tryz.func80, Tryz.ntmps80
  go_wp2
  refine wp_name fun w1 hW1 => ?_
  have hB1 : Below w.heap.size w w1 := by rw [hW1]; repeat (first | exact Below.refl _ _ | exact hB | refine Below.drew ?_ | refine below_drewN ?_ _ | refine bset ?_ (by simp <;> omega) _ | refine bal ?_ _)
  have hX1 : w1.cell? ⟨w.heap.size, 0, none⟩ = some (.bool nx) ∧ w1.cell? ⟨w.heap.size, 1, none⟩ = some (.slice ax kx cx) ∧ w1.cell? ⟨w.heap.size + 1, 0, none⟩ = some (.bool ny) ∧ w1.cell? ⟨w.heap.size + 1, 1, none⟩ = some (.slice ay ky cy) := by rw [hW1]; simp [go_sem]
  have HR1 := Lib.hid (show w1.cell? ⟨w.heap.size + 1 + 1, 0, none⟩ = some (.bool false) ∧ w1.cell? ⟨w.heap.size + 1 + 1, 1, none⟩ = some (.slice none 0 0) ∧ w1.frozen? ⟨w.heap.size + 1 + 1, 0, none⟩ = false ∧ w1.frozen? ⟨w.heap.size + 1 + 1, 1, none⟩ = false ∧ typOf w1 (w.heap.size + 1 + 1) = some 36 from by rw [hW1]; simp [go_sem]; exact typ_fresh (by simp))
  clear hW1
  obtain ⟨x0, x1, y0, y1⟩ := hX1
  have zx := cell_lt x0
  have zy := cell_lt y0
  have av := fun W => abs_v nx ax cx kx W
  have bv := fun W => abs_v ny ay cy ky W
  go_step3
  go_upto_region 1 with (fail)
  go_cut [5, 6] (fun s5 s6 wx => ∃ ab bb, s5 = .pointer (some ⟨ab, 0, none⟩) ∧ s6 = .pointer (some ⟨bb, 0, none⟩) ∧ ab ≠ bb ∧ w1.heap.size ≤ ab ∧ w1.heap.size ≤ bb ∧ Hid (VarI ab m wx) ∧ Hid (VarI bb n wx) ∧ Below w1.heap.size w1 wx)
  case first =>
    have hBj := Below.refl w1.heap.size w1
    have HS := Lib.hid (show ∀ W, Below w1.heap.size w1 W → W.cell? ⟨w.heap.size, 0, none⟩ = some (.bool nx) ∧ W.cell? ⟨w.heap.size, 1, none⟩ = some (.slice ax kx cx) ∧ W.cell? ⟨w.heap.size + 1, 0, none⟩ = some (.bool ny) ∧ W.cell? ⟨w.heap.size + 1, 1, none⟩ = some (.slice ay ky cy) from fun W q => ⟨bkeep q x0, bkeep q x1, bkeep q y0, bkeep q y1⟩)
    go_region_held3 (fun W => W.cell? ⟨w.heap.size, 0, none⟩ = some (.bool nx) ∧ W.cell? ⟨w.heap.size, 1, none⟩ = some (.slice ax kx cx) ∧ W.cell? ⟨w.heap.size + 1, 0, none⟩ = some (.bool ny) ∧ W.cell? ⟨w.heap.size + 1, 1, none⟩ = some (.slice ay ky cy))
      (first | (refine HS.out _ ?_; (repeat' (first | exact Below.refl _ _ | exact hBj | refine Below.drew ?_ | refine below_drewN ?_ _ | refine bal ?_ _ | refine bset ?_ ?_ _ | exact hla1 | exact Nat.le_trans hla1 (Nat.le_succ _) | exact hla2 | exact Nat.le_trans hla2 (Nat.le_succ _) | exact Nat.le_refl _ | exact Nat.le_succ _)); done) | fail)
      (first
      | (go_at_call 122; (with_reducible show Calls _ _ #[.agg #[.bool nx, _]] _ _); refine (av _).mono ?_; rintro e w11 ⟨rfl, hb11⟩; (have hBd : Below w1.heap.size w1 w11 := bthen (by repeat (first | exact Below.refl _ _ | exact hBj | refine Below.drew ?_ | refine below_drewN ?_ _ | refine bset ?_ (by simp <;> omega) _ | refine bal ?_ _)) hb11; clear hBj; have hBj := hBd; clear hBd); have hc11 := (bcell hb11).1; have hf11 := (bcell hb11).2; have ht11 := tcell hb11; have hla1 := hBj.size; have hs11 := hb11.size; (try simp [go_sem] at hs11); (try have qa : w1.heap.size < w11.heap.size := by omega); (try have qb : w1.heap.size + 1 < w11.heap.size := by omega); have zy11 := Nat.lt_of_lt_of_le zy hBj.size; have zy12 := Nat.lt_of_lt_of_le zx hBj.size)
      | (go_at_call 122; (with_reducible show Calls _ _ #[.agg #[.bool ny, _]] _ _); refine (bv _).mono ?_; rintro e w12 ⟨rfl, hb12⟩; (have hBd : Below w1.heap.size w1 w12 := bthen (by repeat (first | exact Below.refl _ _ | exact hBj | refine Below.drew ?_ | refine below_drewN ?_ _ | refine bset ?_ (by simp <;> omega) _ | refine bal ?_ _)) hb12; clear hBj; have hBj := hBd; clear hBd); have hc12 := (bcell hb12).1; have hf12 := (bcell hb12).2; have ht12 := tcell hb12; have hla2 := hBj.size; have hs12 := hb12.size; (try simp [go_sem] at hs12); (try have qc : w11.heap.size < w12.heap.size := by omega); (try have qd : w11.heap.size + 1 < w12.heap.size := by omega); (try have qe : w1.heap.size < w12.heap.size := by omega); (try have qf : w1.heap.size + 1 < w12.heap.size := by omega))
      | fail)
    all_goals
      go_wp2_with fail
      go_meet
      refine (fun hbx => ⟨_, _, rfl, rfl, by omega, by omega, by omega, Lib.hid ⟨?_, false, ax, kx, cx, ?_, ?_, ?_, ?_, HA.out.keep (bthen hB1 hbx)⟩, Lib.hid ⟨?_, false, ay, ky, cy, ?_, ?_, ?_, ?_, HB.out.keep (bthen hB1 hbx)⟩, hbx⟩ : Below w1.heap.size w1 _ → _) ?_
      all_goals first
        | (simp (disch := (first | (simp; done) | (simp; omega) | omega)) only [typ_set, typ_alloc_eq, typ_alloc_lt, ht12, ht11, typ_drew]; done)
        | (simp [go_sem, *]; done)
        | ((repeat' (first | exact Below.refl _ _ | exact hBj | refine Below.drew ?_ | refine below_drewN ?_ _ | refine bal ?_ _ | refine bset ?_ ?_ _ | exact hla1 | exact Nat.le_trans hla1 (Nat.le_succ _) | exact hla2 | exact Nat.le_trans hla2 (Nat.le_succ _) | exact Nat.le_refl _ | exact Nat.le_succ _)); done)
        | ((repeat (refine cell_far ?_ ?b _; case b => (first | (simp; done) | (simp; omega)))); (first | (refine cell_here (v := .bool false) ?_ _; (repeat (refine cell_far ?_ ?b _; case b => (first | (simp; done) | (simp; omega)))); (simp [go_sem, *]; done)) | (refine cell_here (v := .slice none 0 0) ?_ _; (repeat (refine cell_far ?_ ?b _; case b => (first | (simp; done) | (simp; omega)))); (simp [go_sem, *]; done))))
  case rest =>
    obtain ⟨ab, bb, rfl, rfl, hne, hla, hlb, hA, hBv, hbx⟩ := hcut
    have hb1c : Below w.heap.size w wc := bthen hB1 hbx
    have hrl : w.heap.size + 1 + 1 < w1.heap.size := cell_lt HR1.out.1
    have HR := Lib.hid (show wc.cell? ⟨w.heap.size + 1 + 1, 0, none⟩ = some (.bool false) ∧ wc.cell? ⟨w.heap.size + 1 + 1, 1, none⟩ = some (.slice none 0 0) ∧ wc.frozen? ⟨w.heap.size + 1 + 1, 0, none⟩ = false ∧ wc.frozen? ⟨w.heap.size + 1 + 1, 1, none⟩ = false from ⟨bkeep hbx HR1.out.1, bkeep hbx HR1.out.2.1, bkeepf hbx HR1.out.1 HR1.out.2.2.1, bkeepf hbx HR1.out.2.1 HR1.out.2.2.2.1⟩)
    have hws : w.heap.size ≤ w1.heap.size := hB1.size
    have H0 := Lib.hid (show VarI ab m wc ∧ VarI bb n wc ∧ Nat.gcd m n = Nat.gcd m n ∧ m < 2 ^ k ∧ n < 2 ^ k from ⟨hA.out, hBv.out, rfl, HBD.out.1, HBD.out.2⟩)
    clear av bv x0 x1 y0 y1 zx zy HR1 hB1 hbx hA hBv HA HB HBD hB
    go_wp2
    go_step3
    go_wp2
    go_loopg [] n (fun gk wr => ∃ m' : Nat, Hid (VarI ab m' wr ∧ VarI bb gk wr ∧ Nat.gcd m' gk = Nat.gcd m n ∧ m' < 2 ^ k ∧ gk < 2 ^ k) ∧ Hid (wr.cell? ⟨w.heap.size + 1 + 1, 0, none⟩ = some (.bool false) ∧ wr.cell? ⟨w.heap.size + 1 + 1, 1, none⟩ = some (.slice none 0 0) ∧ wr.frozen? ⟨w.heap.size + 1 + 1, 0, none⟩ = false ∧ wr.frozen? ⟨w.heap.size + 1 + 1, 1, none⟩ = false) ∧ Below w.heap.size w wr)
    case atStart => exact ⟨m, Lib.hid ⟨H0.out.1, H0.out.2.1, rfl, H0.out.2.2.2.1, H0.out.2.2.2.2⟩, HR, hb1c⟩
    case round =>
      obtain ⟨m', H, HR, hBr⟩ := hrel
      obtain ⟨-, n1, a1, l1, c1, a0, a1', -, -, aI⟩ := H.out.1
      obtain ⟨-, n2, a2, l2, c2, b0, b1, b0f, b1f, bI⟩ := H.out.2.1
      have HAI := Lib.hid aI
      have HBI := Lib.hid bI
      have sc := fun W (q : Below wr.heap.size wr W) => sign_c _ _ W (HBI.out.keep q)
      have za := cell_lt a0
      have zb := cell_lt b0
      have hBw := Below.refl wr.heap.size wr
      clear aI bI
      by_cases h0 : gk = 0
      · subst h0
        have hG : (m' : Int) = (Nat.gcd m n : Nat) := by rw [← H.out.2.2.1, Nat.gcd_zero_right]
        rw [show ((0 : Nat) : Int).sign = 0 from rfl] at sc
        go_wp2_with fail
        refine (sc _ (by repeat (first | exact Below.refl _ _ | exact hBw | refine Below.drew ?_ | refine below_drewN ?_ _ | refine bset ?_ (by simp <;> omega) _ | refine bal ?_ _))).mono ?_
        rintro e w5 ⟨rfl, hb5⟩
        have hb5' : Below wr.heap.size wr w5 := bthen (by repeat (first | exact Below.refl _ _ | exact hBw | refine Below.drew ?_ | refine below_drewN ?_ _ | refine bset ?_ (by simp <;> omega) _ | refine bal ?_ _)) hb5
        have r0f := bkeepf hb5' HR.out.1 HR.out.2.2.1
        have r1f := bkeepf hb5' HR.out.2.1 HR.out.2.2.2
        have r0 := bkeep hb5' HR.out.1
        have r1 := bkeep hb5' HR.out.2.1
        have a05 := bkeep hb5' a0
        have a15 := bkeep hb5' a1'
        have hp := Lib.hid ((HAI.out.keep hb5').put2 r0 r1 (.bool n1) (.slice a1 l1 c1))
        rw [hG] at hp
        have hB5 := bthen hBr hb5'
        clear sc H b0 b1 b0f b1f HBI a0 a1'
        go_wp2
        rw [Exit.noGoto_ret]
        refine bodyPost_ret (v := .agg #[.bool n1, .slice a1 l1 c1]) (by simp [results, Tryz.results80, go_sem, *]) rfl ⟨⟨_, rfl, hp.out⟩, ?_⟩
        repeat (first | exact Below.refl _ _ | exact hB5 | refine Below.drew ?_ | refine below_drewN ?_ _ | refine bset ?_ (by simp <;> omega) _ | refine bal ?_ _)
      · obtain ⟨sg, hsg, hsgE⟩ : ∃ q : Int, q ≠ 0 ∧ (gk : Int).sign = q := ⟨_, (fun e => h0 (by have := Int.sign_eq_zero_iff_zero.1 e; omega)), rfl⟩
        rw [hsgE] at sc
        have hsb : (sg != 0) = true := by simpa using hsg
        have HM := Lib.hid h0
        have HBD := Lib.hid (And.intro H.out.2.2.2.1 (And.intro H.out.2.2.2.2 H.out.2.2.1))
        have HV := Lib.hid (And.intro H.out.1 H.out.2.1)
        clear hsgE hsg h0 H
        go_wp2_with fail
        refine (sc _ (by repeat (first | exact Below.refl _ _ | exact hBw | refine Below.drew ?_ | refine below_drewN ?_ _ | refine bset ?_ (by simp <;> omega) _ | refine bal ?_ _))).mono ?_
        rintro e w5 ⟨rfl, hb5⟩
        have hb5' : Below wr.heap.size wr w5 := bthen (by repeat (first | exact Below.refl _ _ | exact hBw | refine Below.drew ?_ | refine below_drewN ?_ _ | refine bset ?_ (by simp <;> omega) _ | refine bal ?_ _)) hb5
        have a05 := bkeep hb5' a0
        have a15 := bkeep hb5' a1'
        have b05 := bkeep hb5' b0
        have b15 := bkeep hb5' b1
        have HV5 := Lib.hid (And.intro (HV.out.1.keep hb5') (HV.out.2.keep hb5'))
        have HR5 := Lib.hid (show w5.cell? ⟨w.heap.size + 1 + 1, 0, none⟩ = some (.bool false) ∧ w5.cell? ⟨w.heap.size + 1 + 1, 1, none⟩ = some (.slice none 0 0) ∧ w5.frozen? ⟨w.heap.size + 1 + 1, 0, none⟩ = false ∧ w5.frozen? ⟨w.heap.size + 1 + 1, 1, none⟩ = false from ⟨bkeep hb5' HR.out.1, bkeep hb5' HR.out.2.1, bkeepf hb5' HR.out.1 HR.out.2.2.1, bkeepf hb5' HR.out.2.1 HR.out.2.2.2⟩)
        have dc := fun W (q : Below w5.heap.size w5 W) => divmod_c _ _ (m' : Int) (gk : Int) k W ((HAI.out.keep hb5').keep q) ((HBI.out.keep hb5').keep q) (by unfold Bd; rw [Int.natAbs_natCast]; exact HBD.out.1) (by unfold Bd; rw [Int.natAbs_natCast]; exact HBD.out.2.1) hk (by have := HM.out; omega)
        rw [show ((m' : Int) % (gk : Int)) = ((m' % gk : Nat) : Int) from (Int.natCast_emod m' gk).symm] at dc
        have hB5 := bthen hBr hb5'
        have za5 := cell_lt a05
        have zb5 := cell_lt b05
        have hBw5 := Below.refl w5.heap.size w5
        clear sc HV HR a0 a1' b0 b1 b0f b1f za zb hb5 hBr hBw
        go_wp2_with fail
        refine (dc _ (by repeat (first | exact Below.refl _ _ | exact hBw5 | refine Below.drew ?_ | refine below_drewN ?_ _ | refine bset ?_ (by simp <;> omega) _ | refine bal ?_ _))).mono ?_
        rintro e w6 ⟨⟨u6, r6, rfl, hu6, hr6⟩, hb6⟩
        have hb6' : Below w5.heap.size w5 w6 := bthen (by repeat (first | exact Below.refl _ _ | exact hBw5 | refine Below.drew ?_ | refine below_drewN ?_ _ | refine bset ?_ (by simp <;> omega) _ | refine bal ?_ _)) hb6
        have HR6 := Lib.hid hr6
        obtain ⟨n7, a7, c7, l7, rfl, -⟩ := hu6
        obtain ⟨n8, a8, c8, l8, rfl, -⟩ := hr6
        unfold iv at *
        have HV6 := Lib.hid (And.intro (HV5.out.1.keep hb6') (HV5.out.2.keep hb6'))
        have HRR6 := Lib.hid (show w6.cell? ⟨w.heap.size + 1 + 1, 0, none⟩ = some (.bool false) ∧ w6.cell? ⟨w.heap.size + 1 + 1, 1, none⟩ = some (.slice none 0 0) ∧ w6.frozen? ⟨w.heap.size + 1 + 1, 0, none⟩ = false ∧ w6.frozen? ⟨w.heap.size + 1 + 1, 1, none⟩ = false from ⟨bkeep hb6' HR5.out.1, bkeep hb6' HR5.out.2.1, bkeepf hb6' HR5.out.1 HR5.out.2.2.1, bkeepf hb6' HR5.out.2.1 HR5.out.2.2.2⟩)
        have hB6 := bthen hB5 hb6'
        clear dc a05 a15 b05 b15 HV5 HR5 za5 zb5 hb5' hb6 hB5 hBw5
        have hBw6 := Below.refl w6.heap.size w6
        go_wp2
        refine wp_name fun w7 hW7 => ?_
        have hb7 : Below w6.heap.size w6 w7 := by rw [hW7]; repeat (first | exact Below.refl _ _ | exact hBw6 | refine Below.drew ?_ | refine below_drewN ?_ _ | refine bset ?_ (by simp <;> omega) _ | refine bal ?_ _)
        have HC7 := Lib.hid (show VarI (w6.heap.size + 1) ((m' % gk : Nat) : Int) w7 from by rw [hW7]; exact ⟨typ_fresh (by simp), n8, a8, l8.length, c8, by simp [go_sem], by simp [go_sem], by simp [go_sem], by simp [go_sem], HR6.out.keep (bal (bal (Below.refl _ _) _) _)⟩)
        have hs7 : w6.heap.size + 1 < w7.heap.size := typ_lt HC7.out.1
        have HV7 := Lib.hid (And.intro (HV6.out.1.keep hb7) (HV6.out.2.keep hb7))
        have HRR7 := Lib.hid (show w7.cell? ⟨w.heap.size + 1 + 1, 0, none⟩ = some (.bool false) ∧ w7.cell? ⟨w.heap.size + 1 + 1, 1, none⟩ = some (.slice none 0 0) ∧ w7.frozen? ⟨w.heap.size + 1 + 1, 0, none⟩ = false ∧ w7.frozen? ⟨w.heap.size + 1 + 1, 1, none⟩ = false from ⟨bkeep hb7 HRR6.out.1, bkeep hb7 HRR6.out.2.1, bkeepf hb7 HRR6.out.1 HRR6.out.2.2.1, bkeepf hb7 HRR6.out.2.1 HRR6.out.2.2.2⟩)
        have hB7 := bthen hB6 hb7
        have hxa : ab < w6.heap.size := typ_lt HV6.out.1.1
        have hxb : bb < w6.heap.size := typ_lt HV6.out.2.1
        clear hW7 HV6 HRR6 HR6 hBw6 hb6' hB6 hb7
        obtain ⟨cb, hcb⟩ : ∃ c, w6.heap.size + 1 = c := ⟨_, rfl⟩
        rw [hcb] at HC7 hs7 ⊢
        have hac : ab < cb := by omega
        have hbc : bb < cb := by omega
        clear hcb hxa hxb
        obtain ⟨-, m1, m2, m3, m4, q0, q1, q0f, q1f, qI⟩ := HV7.out.1
        obtain ⟨-, o1, o2, o3, o4, p0, p1, p0f, p1f, pI⟩ := HV7.out.2
        obtain ⟨-, s1, s2, s3, s4, t0, t1, t0f, t1f, tI⟩ := HC7.out
        have HPI := Lib.hid pI
        have HTI := Lib.hid tI
        have zq := cell_lt q0
        have zp := cell_lt p0
        clear qI pI tI
        go_region
        all_goals
          have HA1 := HV7.out.1.put HPI.out
          have HB1' := HV7.out.2.far HV7.out.1 (Ne.symm hne) o1 o2 o3 o4
          have HC1 := HC7.out.far HV7.out.1 (Ne.symm (Nat.ne_of_lt hac)) o1 o2 o3 o4
          have HT1 := HTI.out.put2 q0 q1 (.bool o1) (.slice o2 o3 o4)
          have HB2 := HB1'.put HT1
          have HA2 := HA1.far HB1' hne s1 s2 s3 s4
          have hnab : ¬ ab = w.heap.size + 1 + 1 := by omega
          have hnbb : ¬ bb = w.heap.size + 1 + 1 := by omega
          have hr0 := cell_far2 (cell_far2 HRR7.out.1 hnab o1 o2 o3 o4) hnbb s1 s2 s3 s4
          have hr1 := cell_far2 (cell_far2 HRR7.out.2.1 hnab o1 o2 o3 o4) hnbb s1 s2 s3 s4
          have HN := Lib.hid (And.intro HA2 (And.intro HB2 (And.intro hr0 hr1)))
          have hab : w.heap.size ≤ ab := by omega
          have hbb : w.heap.size ≤ bb := by omega
          have hBN : Below w.heap.size w ((((w7.setCell ⟨ab, 0, none⟩ (.bool o1)).setCell ⟨ab, 1, none⟩ (.slice o2 o3 o4)).setCell ⟨bb, 0, none⟩ (.bool s1)).setCell ⟨bb, 1, none⟩ (.slice s2 s3 s4)) := bset (bset (bset (bset hB7 hab _) hab _) hbb _) hbb _
          clear HA1 HB1' HC1 HT1 HB2 HA2 hr0 hr1 q0 q1 q0f q1f p0 p1 p0f p1f t0 t1 t0f t1f
          go_wp2
          go_roundg (m' % gk)
          case measure => exact Nat.mod_lt _ (Nat.pos_of_ne_zero HM.out)
          case rel => exact ⟨gk, Lib.hid ⟨HN.out.1.keep (Below.refl _ _).drew, HN.out.2.1.keep (Below.refl _ _).drew, by rw [gcd_step, HBD.out.2.2], HBD.out.2.1, Nat.lt_of_lt_of_le (Nat.mod_lt _ (Nat.pos_of_ne_zero HM.out)) (Nat.le_of_lt HBD.out.2.1)⟩, Lib.hid ⟨HN.out.2.2.1, HN.out.2.2.2, by show (World.drew _).frozen? _ = false; rw [show ∀ W : World, ∀ p, W.drew.frozen? p = W.frozen? p from fun _ _ => rfl, World.frozen?_setCell, World.frozen?_setCell, World.frozen?_setCell, World.frozen?_setCell]; exact HRR7.out.2.2.1, by show (World.drew _).frozen? _ = false; rw [show ∀ W : World, ∀ p, W.drew.frozen? p = W.frozen? p from fun _ _ => rfl, World.frozen?_setCell, World.frozen?_setCell, World.frozen?_setCell, World.frozen?_setCell]; exact HRR7.out.2.2.2⟩, hBN.drew⟩
end Go.Proofs.YthlphfjmdgcpdaaGreatDoor

