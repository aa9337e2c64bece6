/- Texts of this seat, laid together (what the earlier ones leave out): MwW, MwX. Each opens with its own remark, which says what it proves, and under which conditions. -/
import Derived.Test.YthaohpfbengabaaDoorR01
import Derived.Test.YthaohpfbengabaaDoorR02
import Derived.Test.YthaohpfbengabaaDoorR03
import Derived.Test.YthaohpfbengabaaDoorR04
import Derived.Test.YthaohpfbengabaaDoorR05
import Derived.Test.YthaohpfbengabaaDoorR06
import Derived.Test.YthaohpfbengabaaDoorR07
import Derived.Test.YthaohpfbengabaaDoorR08
import Derived.Test.YthaohpfbengabaaDoorR09
import Derived.Test.YthaohpfbengabaaDoorR10
import Derived.Test.YthaohpfbengabaaDoorR11
import Derived.Test.YthaohpfbengabaaDoorR12
import Derived.Test.YthaohpfbengabaaDoorR13
import Derived.Test.YthaohpfbengabaaDoorR14
import Derived.Test.YthaohpfbengabaaDoorR16
import Derived.Test.YthaohpfbengabaaDoorU01
import Derived.Test.YthaohpfbengabaaDoorU02
import Derived.Test.YthaohpfbengabaaDoorU03
import Derived.WalkKit
import Derived.ProofKit
import Derived.OpenShut
import Derived.Deep.QuietTactic
import Derived.BigQuiet
import Derived.Outline
import Derived.Lib.Hide
import Derived.WalkSmall
import Derived.WalkSpells
import Derived.WalkLawsBesides
import Derived.Deep.RegionWith
import Derived.Deep.RegionHeld3
import Derived.Laws.CopyOwn
import Derived.Shelf.Small.Bits
import Derived.Laws.AppendOwn
import Derived.Deep.AppendLies
import Derived.OneCell
import Derived.Laws.BitsAllLaws
import Derived.Shelf.Spec.TrailingZeros
import Derived.Shelf.Strings.Builder1
import Derived.Shelf.Strings.Trim
import Derived.Deep.Cut
import Derived.Deep.DeepCutAuto
import Derived.ArgAppend
import Derived.Deep.DeepFit
import Derived.Shelf.Abstract
import Derived.Laws.EntriesVeiled
import Derived.RegionTactic
import Derived.ChangeAlike
import Derived.Laws.OwnMore
import Derived.Deep.Onto
import Derived.Deep.DrawnRows
import Derived.Deep.RegionLaw
import Derived.Deep.LoopGhost
import Derived.RangeFuncNested
import Derived.RangeFuncBound
import Derived.RangeFuncCalls
import Derived.RangeFuncLeaves
import Derived.Shelf.RegionOpen
import Derived.OwnWalkIn
import Derived.TacticsInMore
import Derived.LoopNIn
import Derived.LoopIn
import Derived.Laws.CopyRow
import Derived.Laws.Rows
import Derived.Laws.Tables
import Derived.StillTail
import Derived.Deep.Quiet
import Derived.StillTailTactics
import Derived.Lib.AppendZeros
import Derived.Laws.IdiomStrings
import Derived.Laws.BytesArg
import Derived.Laws.RangeString
import Derived.Lib.OthersKept
import Derived.Maps.AppendAt
import Derived.Shelf.Strings.OnBuilder
import Derived.Lib.SmallJoins
import Derived.Deep.Slices
import Derived.Deep.Matrix
import Derived.Deep.Fields
import Derived.ChangeSame
import Derived.DataShut
import Derived.SizedLaws
set_option linter.unusedVariables false
set_option linter.unusedSimpArgs false
/- matrix: what Pivots' iterator tells; Rank. -/
namespace Go.Proofs.YthaohpfbengabaaDoor
open Num
open Go.ChangeShapes Go.WideShapes Go.ChangeAt Go.RowKit
attribute [local go_sem ↓] Go.wp_at_zero Go.wp_at_succ
def KpC (c : Nat) (X Y : World) : Prop := X.heap.size ≤ Y.heap.size ∧ ∀ (B i : Nat) (v : Value), B ≠ c → X.cell? ⟨B, i, none⟩ = some v → Y.cell? ⟨B, i, none⟩ = some v
theorem KpC.refl (c : Nat) (X : World) : KpC c X X := ⟨Nat.le_refl _, fun _ _ _ _ h => h⟩
theorem KpC.trans {c : Nat} {X Y Z : World} (h : KpC c X Y) (k : KpC c Y Z) : KpC c X Z := ⟨Nat.le_trans h.1 k.1, fun B i v hb hv => k.2 B i v hb (h.2 B i v hb hv)⟩
theorem KpC.put {c l : Nat} {X : World} {o o' : Obj} (h : X.heap[l]? = some o) (ho : o.isCells = false) : KpC c X (X.putObj l o') := ⟨Nat.le_of_eq (by simp), fun B i v _ hc => by
  have e : B ≠ l := fun e => by
    subst e
    obtain ⟨o2, h2, c2⟩ := cells_of_cell hc
    have h2' : X.heap[B]? = some o2 := h2
    rw [h] at h2'; cases h2'; rw [ho] at c2; cases c2
  rw [World.cell?_of_block (w := X) (World.putObj_heap_other e)]; exact hc⟩
def IsPv (b0 : Nat) (w : World) (v : Value) (L : List Nat) : Prop := IsL 3 PInt b0 w v L
theorem IsPv.al {b0 : Nat} {w : World} {v : Value} {L : List Nat} (h : IsPv b0 w v L) (o : Obj) : IsPv b0 (w.alloc o) v L := IsL.keep prs_pint h (bal (Below.refl _ _) _)
theorem IsPv.dr {b0 : Nat} {w : World} {v : Value} {L : List Nat} (h : IsPv b0 w v L) : IsPv b0 w.drew v L := IsL.keep prs_pint h (Below.refl _ _).drew
theorem IsPv.setT {b0 : Nat} {w : World} {v : Value} {L : List Nat} (h : IsPv b0 w v L) {p : Addr} (ht : typOf w p.block = some 33) (u : Value) : IsPv b0 (w.setCell p u) v L :=
  IsL.kp (S' := fun t => t ≠ 33) prs_pint h ((Kp.refl _ _).set (fun t ht' => by rw [ht] at ht'; cases ht'; exact fun h => h rfl) _) (fun t ht => ht.elim) (by decide)
theorem IsL.view0 {α : Type} {T : TypeId} {Pr : World → Value → α → Prop} {base : Nat} {w : World} {v : Value} {g : List α} (h : IsL T Pr base w v g) : ∃ a c, v = .slice a g.length c ∧ g.length ≤ c ∧ ∀ k (hk : k < g.length), ∃ b off u, a = some ⟨b, off, none⟩ ∧ base ≤ b ∧ w.cell? ⟨b, off + k, none⟩ = some u ∧ Pr w u g[k] := by
  obtain ⟨a, c, h1, h2, h3, h4⟩ := h
  refine ⟨a, c, h1, h2, fun k hk => ?_⟩
  rcases h4 with h4 | ⟨b, off, e, hb, ht, hi⟩
  · subst h4; exact absurd hk (by simp)
  · obtain ⟨u, hu, hp⟩ := hi k hk
    exact ⟨b, off, u, e, hb, hu, hp⟩
def pivL (g : Grid) : List Nat := (Det.elR g.length (gat g) (cols g)).p
set_option maxRecDepth 100000 in
set_option maxHeartbeats 8000000 in
theorem pivs1_c (l B c N K : Nat) (g : Grid) (a : Option Addr) (cp : Nat) (J Jx : List Nat → World → Prop) (hJ : ∀ pre W W', J pre W → W.grownBy W' none → J pre W')
    (hY : ∀ pre x W1, J pre W1 → pre.length < N → YieldAt Fence.wide 3 Tryd.prog l #[.int .i64 (x : Nat)] W1 fun e W' => (e = .returned (.bool true) ∧ J (pre ++ [x]) W' ∧ KpC c W1 W') ∨ (e = .returned (.bool false) ∧ Jx (pre ++ [x]) W'))
    (W : World) (hc : c < W.heap.size) (hv : IsM 0 W (.agg #[.slice a g.length cp]) g) (hm : W.cell? ⟨B, 0, none⟩ = some (.slice a g.length cp)) (rg : Rct g (cols g)) (hn : g.length ≤ 65536) (hcl : cols g ≤ 65536) (hp0 : 0 < g.length → 0 < cols g) (hK1 : 1 ≤ K) (hbd : BdM K g) (hK : kb K (cols g) ≤ 4294967296) (h0 : J [] W) (hN : (pivL g).length ≤ N) :
    Calls Tryd.prog 61 #[.func (.yield l) #[] #[], .pointer (some ⟨B, 0, none⟩)] W fun e W' => (∃ v, e = .returned v) ∧ ((∃ xs, xs = pivL g ∧ J xs W') ∨ (∃ pre, pre <+: pivL g ∧ Jx pre W')) := by
  have hz0 : g.length = 0 → cols g = 0 := fun h => by rw [List.length_eq_zero_iff.1 h]; rfl
  have EC := Lib.hid (fun V (q : Below W.heap.size W V) => (show Calls Tryd.prog 62 #[.slice a g.length cp, .int .i64 (cols g : Nat)] V (ElimPost g (cols g) V) from by
    obtain ⟨a', c', e, hl⟩ := hv.keep q
    cases e
    exact elim_c _ g (cols g) (cols g) K V hl rg (by omega) (by omega) (Nat.le_refl _) hz0 hp0 hK1 hbd hK))
  have CC := Lib.hid (fun V (q : Below W.heap.size W V) => colsI (hv.keep q) (n := cols g) rfl)
  unfold ElimPost at EC
  have eL : (Det.elR g.length (gat g) (cols g)).p = pivL g := rfl
  rw [eL] at EC
  obtain ⟨L, hL⟩ : ∃ L, pivL g = L := ⟨_, rfl⟩
  rw [hL] at EC hN ⊢
  obtain ⟨z, hz⟩ : ∃ z, (Det.elR g.length (gat g) (cols g)).last * (Det.elR g.length (gat g) (cols g)).sign = z := ⟨_, rfl⟩
  rw [hz] at EC
  clear eL hL hz hz0
  obtain ⟨n, hnE⟩ : ∃ n, g.length = n := ⟨_, rfl⟩
  obtain ⟨m, hmE⟩ : ∃ m, cols g = m := ⟨_, rfl⟩
  rw [hnE] at EC CC hm
  rw [hmE] at EC CC
  have HY := Lib.hid hY
  have HJ := Lib.hid hJ
  have HN := Lib.hid hN
  clear hv rg hn hcl hp0 hbd hK hnE hmE hY hJ hN
  have hB := Below.refl W.heap.size W
  have zm := cell_lt hm
  go_enter Tryd.func61, Tryd.ntmps61
  go_wp2
  go_cut [4] (fun s4 wx => ∃ pa pc, s4 = .slice pa L.length pc ∧ Hid (IsPv W.heap.size wx (.slice pa L.length pc) L) ∧ Below W.heap.size W wx)
  case first =>
    have HS := Lib.hid (show ∀ V, Below W.heap.size W V → V.cell? ⟨B, 0, none⟩ = some (.slice a n cp) from fun V q => bkeep q hm)
    have hBj := Below.refl W.heap.size W
    have hla1 := hBj.size
    go_region_held3 (fun V => V.cell? ⟨B, 0, none⟩ = some (.slice a n cp))
      (first | (refine HS.out _ ?_; (repeat' (first | exact Below.refl _ _ | exact hBj | refine Below.drew ?_ | refine below_drewN ?_ _ | refine bal ?_ _ | refine bset ?_ ?_ _ | exact hla11 | exact Nat.le_trans hla11 (Nat.le_succ _) | exact hla12 | exact Nat.le_trans hla12 (Nat.le_succ _) | exact Nat.le_refl _ | exact Nat.le_succ _)); done) | fail)
      (first
      | (go_at_call 10; (with_reducible refine (CC.out _ ?_).mono ?_); (repeat (first | exact Below.refl _ _ | exact hBj | refine Below.drew ?_ | refine below_drewN ?_ _ | refine bset ?_ (by simp <;> omega) _ | refine bal ?_ _)); rintro e w11 ⟨rfl, hb11⟩; (have hBd : Below W.heap.size W w11 := bthen belA hb11; clear hBj; have hBj := hBd; clear hBd); have hc11 := (bcell hb11).1; have hf11 := (bcell hb11).2; have ht11 := tcell hb11; have hla11 := hBj.size; have hs11 := hb11.size; (try simp [go_sem] at hs11); (try have qa11 : W.heap.size < w11.heap.size := by omega))
      | (go_at_call 62; (with_reducible refine (EC.out _ ?_).mono ?_); (repeat (first | exact Below.refl _ _ | exact hBj | refine Below.drew ?_ | refine below_drewN ?_ _ | refine bset ?_ (by simp <;> omega) _ | refine bal ?_ _)); rintro e w12 ⟨⟨ea, ec, pa, pc, zv, rfl, hp, hzv⟩, hb12⟩; have HP := Lib.hid (show IsPv W.heap.size w12 (.slice pa L.length pc) L from IsL.rebase hp (show Below W.heap.size W _ by repeat (first | exact Below.refl _ _ | exact hBj | refine Below.drew ?_ | refine below_drewN ?_ _ | refine bset ?_ (by simp <;> omega) _ | refine bal ?_ _)).size); (have hBd : Below W.heap.size W w12 := bthen belA hb12; clear hBj; have hBj := hBd; clear hBd); have hc12 := (bcell hb12).1; have hf12 := (bcell hb12).2; have ht12 := tcell hb12; have hla12 := hBj.size; have hs12 := hb12.size; (try simp [go_sem] at hs12); (try have qa12 : W.heap.size < w12.heap.size := by omega); (try have qb12 : w11.heap.size < w12.heap.size := by omega); obtain ⟨nz, az, cz, lz, rfl, -⟩ := hzv; unfold iv at *; clear hp)
      | fail)
    all_goals
      go_wp2_with fail
      go_meet
      refine (fun hbx => ⟨pa, pc, rfl, Lib.hid ?_, hbx⟩ : Below W.heap.size W _ → _) ?_
      all_goals first
        | ((repeat' (first | exact Below.refl _ _ | exact hBj | refine Below.drew ?_ | refine below_drewN ?_ _ | refine bal ?_ _ | refine bset ?_ ?_ _ | exact hla11 | exact Nat.le_trans hla11 (Nat.le_succ _) | exact hla12 | exact Nat.le_trans hla12 (Nat.le_succ _) | exact Nat.le_refl _ | exact Nat.le_succ _)); done)
        | ((repeat' (first | exact HP.out | refine IsPv.al ?_ _ | refine IsPv.dr ?_ | refine IsPv.setT ?_ ?_ _)) <;> (simp (disch := (first | (simp; done) | (simp; omega) | omega)) only [typ_set, typ_alloc_eq, typ_alloc_lt, ht11, ht12, typ_drew]; done))
  case rest =>
    obtain ⟨pa, pc, rfl, HP, hk⟩ := hcut
    have hj0 := HJ.out [] W wc h0 (grown_of_below hk)
    have hcs := hk.size
    have hLb : L.length ≤ 9223372036854775807 := by
      obtain ⟨_, c9, e9, h9, h10, _⟩ := (show IsL 3 PInt W.heap.size wc (.slice pa L.length pc) L from HP.out)
      unfold maxLen at h10; omega
    clear EC CC hm zm hB h0
    go_wp2
    go_loopw [19] (fun x wr => ∃ k : Nat, k ≤ L.length ∧ x = .int .i64 k ∧ J (L.take k) wr ∧ KpC c wc wr) (fun x _ => L.length - (intOf x).toNat)
    case atStart => exact ⟨0, Nat.zero_le _, rfl, hj0, KpC.refl _ _⟩
    case round =>
      obtain ⟨k, hkl, rfl, hj, hkp⟩ := hrel
      by_cases hlt : k < L.length
      · have hltI : (k : Int) < (L.length : Int) := by omega
        obtain ⟨a', c', he, -, vr⟩ := IsL.view0 (show IsL 3 PInt W.heap.size wc (.slice pa L.length pc) L from HP.out)
        obtain ⟨rfl, -, rfl⟩ := Value.slice.inj he
        obtain ⟨b, off, u, rfl, hbb, hu, hpi⟩ := vr k hlt
        have hpi2 : u = .int .i64 (L[k] : Nat) := hpi
        subst hpi2
        have hu2 := hkp.2 b (off + k) _ (by omega) hu
        have HT := Lib.hid (show L.take (k + 1) = L.take k ++ [L[k]] by
          rw [List.take_add_one, List.getElem?_eq_getElem hlt]; rfl)
        obtain ⟨fn, tmps, asg, body, hy, hR⟩ := HY.out (L.take k) L[k] wr hj (by rw [List.length_take]; have := HN.out; omega)
        obtain ⟨x, hx⟩ : ∃ x, L[k] = x := ⟨_, rfl⟩
        rw [hx] at hy hR hu2 HT
        have zu := cell_lt hu2
        clear he vr hu hpi hx hj
        go_upto_region 4 with (fail)
        refine (wpIn_wide (n := 4)).1 ?_
        gi_wp2
        refine hR.mono ?_
        rintro e W' (⟨rfl, hJ', hk'⟩ | ⟨rfl, hJx'⟩)
        · gi_wp2
          go_wp2
          exact ⟨⟨k + 1, hlt, by go_num, by rw [HT.out]; exact hJ', hkp.trans hk'⟩, meas hlt (by go_num) rfl⟩
        · gi_wp2
          go_wp2
          refine bodyPost_ret (results_none rfl _ _ _) rfl ?_
          exact ⟨⟨_, rfl⟩, .inr ⟨L.take (k + 1), List.take_prefix _ _, by rw [HT.out]; exact hJx'⟩⟩
      · obtain rfl : k = L.length := by omega
        have hltI : ¬ (L.length : Int) < (L.length : Int) := by omega
        rw [List.take_length] at hj
        go_wp2
        refine bodyPost_end (results_none rfl _ _ _) rfl ?_
        first | exact ⟨⟨_, rfl⟩, .inl hj⟩ | exact ⟨⟨_, rfl⟩, .inl ⟨L, rfl, hj⟩⟩
theorem pivs_stops (B c N K n : Nat) (g : Grid) (a : Option Addr) (cp : Nat) (w : World) (hc : c < w.heap.size) (hv : IsM 0 w (.agg #[.slice a g.length cp]) g) (hm : w.cell? ⟨B, 0, none⟩ = some (.slice a g.length cp)) (rg : Rct g (cols g)) (hn : g.length ≤ 65536) (hcl : cols g ≤ 65536) (hp0 : 0 < g.length → 0 < cols g) (hK1 : 1 ≤ K) (hbd : BdM K g) (hK : kb K (cols g) ≤ 4294967296) (hN : (pivL g).length ≤ N) :
    SeqStopsK Fence.wide n Tryd.prog 61 #[.pointer (some ⟨B, 0, none⟩)] (fun x : Nat => #[.int .i64 (x : Nat)]) (KpC c) (· = pivL g) (· <+: pivL g) N w := by
  intro l J Jx W hW hJ hJx hY h0
  refine callsIn_wide.2 ?_
  exact pivs1_c l B c N K g a cp J Jx (fun pre W1 W2 hj hg => hJ pre W1 W2 none hj hg (fun r e => by cases e)) (fun pre x W1 hp hl => yieldAt_wide (hY pre x W1 hp hl)) W (Nat.lt_of_lt_of_le hc hW.size) (hv.keep hW) (bkeep hW hm) rg hn hcl hp0 hK1 hbd hK h0 hN
end Go.Proofs.YthaohpfbengabaaDoor

/- matrix: Rank. -/
namespace Go.Proofs.YthaohpfbengabaaDoor
open Num
open Go.ChangeShapes Go.WideShapes Go.ChangeAt Go.RowKit
attribute [local go_sem ↓] Go.wp_at_zero Go.wp_at_succ
attribute [local go_sem] Oper.semAt_some
set_option maxRecDepth 100000 in
theorem pivots_b (a : Option Addr) (n c : Nat) (w : World) : Calls Tryd.prog 32 #[.agg #[.slice a n c]] w fun e w' => (e = .returned (.func (.func 61) #[] #[.pointer (some ⟨w.heap.size, 0, none⟩)]) ∧ w'.cell? ⟨w.heap.size, 0, none⟩ = some (.slice a n c)) ∧ Below w.heap.size w w' := by
  have hB := Below.refl w.heap.size w
  go_enter Tryd.func32, Tryd.ntmps32
  go_wp2
  go_ret
  exact ⟨⟨rfl, by simp [go_sem]⟩, by repeat (first | exact Below.refl _ _ | exact hB | refine Below.drew ?_ | refine below_drewN ?_ _ | refine bset ?_ (by simp <;> omega) _ | refine bal ?_ _)⟩
set_option maxRecDepth 100000 in
set_option maxHeartbeats 8000000 in
theorem rank_c (v : Value) (g : Grid) (K : Nat) (w : World) (hv : IsM 0 w v g) (rg : Rct g (cols g)) (hn : g.length ≤ 65536) (hcl : cols g ≤ 65536) (hp0 : 0 < g.length → 0 < cols g) (hK1 : 1 ≤ K) (hbd : BdM K g) (hK : kb K (cols g) ≤ 4294967296) (hL : (pivL g).length ≤ 65536) :
    Calls Tryd.prog 15 #[v] w fun e w' => e = .returned (.int .i64 ((pivL g).length : Nat)) ∧ Below w.heap.size w w' := by
  have HV := Lib.hid hv
  obtain ⟨a, cp, rfl, -⟩ := hv
  obtain ⟨n, hnE⟩ : ∃ n, g.length = n := ⟨_, rfl⟩
  have HS := Lib.hid (fun V B (q : Below w.heap.size w V) (hc : w.heap.size + 1 < V.heap.size) (hm : V.cell? ⟨B, 0, none⟩ = some (.slice a g.length cp)) => pivs_stops B (w.heap.size + 1) (pivL g).length K 8 g a cp V hc (HV.out.keep q) hm rg hn hcl hp0 hK1 hbd hK (Nat.le_refl _))
  rw [hnE] at HS ⊢
  have hB := Below.refl w.heap.size w
  obtain ⟨L, hL2⟩ : ∃ L, pivL g = L := ⟨_, rfl⟩
  rw [hL2] at HS hL ⊢
  have HLL := Lib.hid hL
  clear hL2 hnE rg hn hcl hp0 hbd hK HV hL
  refine calls_of_wp_marks Tryd.func15 rfl ?_
  simp only [Tryd.ntmps15, List.size_toArray, List.length_cons, List.length_nil, Nat.reduceAdd, Nat.reduceSub, Array.replicate_succ, Array.replicate_zero, List.push_toArray, List.append_toArray, List.nil_append, List.cons_append]
  go_wp2_with fail
  (with_reducible refine (pivots_b _ _ _ _).mono ?_)
  rintro e w2 ⟨⟨rfl, hm2⟩, hb2⟩
  have r0 : w2.cell? ⟨w.heap.size + 1, 0, none⟩ = some (.int .i64 0) := bkc hb2
  have zr0 := cell_lt r0
  have r0f : w2.frozen? ⟨w.heap.size + 1, 0, none⟩ = false := bkcf (v := .int .i64 0) hb2
  have hB : Below w.heap.size w w2 := bthen belA hb2
  have hz : w.heap.size ≤ w2.heap.size := hB.size
  have hs2 := hb2.size
  simp only [World.size_alloc] at hm2 hs2
  have HI2 := Lib.hid (And.intro r0 (And.intro r0f (And.intro hB (Nat.le_refl w2.heap.size))))
  have HSQ := HS.out w2 (w.heap.size + 1 + 1) hB (by omega) hm2
  have HC := Lib.hid hs2
  clear HS hm2 hb2 r0 r0f zr0 hz
  go_wp2
  refine wp_rangeK (gf := 61) (lb := #[.pointer (some ⟨w.heap.size + 1 + 1, 0, none⟩)]) (w0 := w2) (L := L) (N := L.length) (Kp := KpC (w.heap.size + 1)) (by simp [Act.eval]) (enters_of Tryd.func61 (by kernel_rfl) rfl)
    (encs := fun x : Nat => #[.int .i64 (x : Nat)]) HSQ (fun h k => h.trans k)
    (fun W l o o' h1 h2 h3 h4 => KpC.put h2 h3) (Below.refl _ _) (fun _ => rfl)
    (fun pre W => (W.cell? ⟨w.heap.size + 1, 0, none⟩ = some (.int .i64 (pre.length : Int)) ∧ W.frozen? ⟨w.heap.size + 1, 0, none⟩ = false ∧ Below w.heap.size w W ∧ w2.heap.size ≤ W.heap.size))
    (fun c pre W => False)
    ?_ ?_ ?_ ?_ ?_
    (fun T x a' W => a' = { tmps := T.setIfInBounds 6 (.int .i64 (x : Nat)), defers := [] } ∧ w2.heap.size ≤ W.heap.size)
    ?_ ?_ ?assign0 ?body0 ?done0 ?stop0
  case assign0 =>
    rintro l pre x W K hi hK
    gi_wp2
    exact hK _ _ (KeepsFrom.refl _ _) (KpC.refl _ _) hi ⟨by simp, hi.2.2.2⟩
  case body0 =>
    rintro l pre x a' w6 ⟨n0, n0f, hB6, hs6⟩ ⟨rfl, _⟩ hl
    simp only [List.setIfInBounds_toArray, List.set_cons_succ, List.set_cons_zero]
    have hpl : (pre.length : Int) < 65536 := by have := HLL.out; omega
    have hz1 := cell_lt n0
    gi_wp2
    refine ⟨kf_set (KeepsFrom.refl _ _) _ _, ⟨by simp, fun B i v hb hv => cell_far hv (fun e => hb (congrArg Addr.block e).symm) _⟩, ?_⟩
    dsimp only
    rw [show ((pre ++ [x]).length : Int) = (pre.length : Int) + 1 by simp]
    exact ⟨cell_here n0 _, by rw [World.frozen?_setCell]; exact n0f, bset hB6 (by simp) _, by simp; exact hs6⟩
  case done0 =>
    rintro D w8 hDs ⟨n0, n0f, hB8, hs8⟩ hK0
    have hDl := (Array.getElem?_eq_some_iff.1 hK0).1
    have hz1 := cell_lt n0
    go_wp2
    refine ⟨by simp, .inl ⟨_, _, rfl, run_takeDeferred (b := D) (ds := []) hK0, ?_⟩⟩
    refine ⟨.int .i64 (L.length : Nat), ?_, rfl, b_put hB8 (by have := hB8.size; omega) _⟩
    simp [results, Tryd.results15, go_sem]
  case stop0 => intro D c pre W _ _ h; cases h
  · exact fun pre W W' h s => ⟨s.cell h.1, s.frozen h.1 h.2.1, h.2.2.1.trans (s.below.mono (by have := HI2.out.2.2.1.size; omega)), Nat.le_trans h.2.2.2 s.below.size⟩
  · exact fun c pre W W' h s => h
  · exact fun pre W h => h.2.2.2
  · exact fun c pre W h => h.elim
  · exact HI2.out
  · rintro x a' W W' ⟨rfl, h⟩ s; exact ⟨rfl, Nat.le_trans h s.below.size⟩
  · rintro x a' W ⟨rfl, h⟩; exact h
end Go.Proofs.YthaohpfbengabaaDoor

