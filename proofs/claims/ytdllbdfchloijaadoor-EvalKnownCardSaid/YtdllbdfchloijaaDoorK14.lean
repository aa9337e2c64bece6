/- Texts of this seat, laid together: TxtJ, EwC, EvH, EvD, RwA, RwB, RwC, ExK, VwC, VwF. Each opens with its own remark, which says what it proves, and under which conditions. -/
import Derived.Test.YtdllbdfchloijaaDoorK13
import Derived.Test.YtdllbdfchloijaaDoorK05
import Derived.Maps.AppendAt
import Derived.Test.YtdllbdfchloijaaDoorK11
import Derived.Test.YtdllbdfchloijaaDoorK06
import Derived.Deep.DrawnRows
import Derived.Test.YtdllbdfchloijaaDoorK04
import Derived.Test.YtdllbdfchloijaaDoorK12
import Derived.Test.YtdllbdfchloijaaDoorK10
import Derived.Deep.LoopGhost
set_option linter.unusedVariables false
set_option linter.unusedSimpArgs false
/- integer: Text. -/
namespace Go.Proofs.YtdllbdfchloijaaDoor
open Num
open Go.ChangeShapes Go.WideShapes Go.ChangeAt Go.RowKit
set_option linter.unusedVariables false
set_option linter.unusedSimpArgs false
attribute [local go_sem] Oper.semAt_some

/-- the text so far: a variable in memory (block c), its bytes from block base on -/
structure OutS (c base : Nat) (av : Option Addr) (cap : Nat) (L : List UInt8) (W : World) : Prop where
  cell : W.cell? ⟨c, 0, none⟩ = some (.slice av L.length cap)
  free : W.frozen? ⟨c, 0, none⟩ = false
  own : W.ownsRow base 5 1 (.slice av L.length cap) L.length (Lib.byteCells L)
  lt : c < base
theorem own_soft {B base : Nat} {W W' : World} {v : Value} {n : Nat} {xs : List Value} (h : W.ownsRow base 5 1 v n xs) (s : Soft B W W') : W'.ownsRow base 5 1 v n xs := by
  refine ⟨h.1, ?_⟩
  rcases h.2 with hn | ⟨g, cap, cur, rfl, hb, hgg, rest⟩
  · exact .inl hn
  · exact .inr ⟨g, cap, cur, rfl, hb, s.cells _ _ hgg rfl, rest⟩
theorem own_put {base : Nat} {W : World} {v : Value} {n : Nat} {xs : List Value} (h : W.ownsRow base 5 1 v n xs) (p : Addr) (x : Value) (hp : p.block < base) : (W.setCell p x).ownsRow base 5 1 v n xs := by
  refine ⟨h.1, ?_⟩
  rcases h.2 with hn | ⟨g, cap, cur, rfl, hb, hgg, rest⟩
  · exact .inl hn
  · exact .inr ⟨g, cap, cur, rfl, hb, (Below.heap_setCell _ _ _ _ (by omega)).trans hgg, rest⟩
theorem own_shape {base : Nat} {W : World} {v : Value} {L : List UInt8} (h : W.ownsRow base 5 1 v L.length (Lib.byteCells L)) : ∃ a c, v = .slice a L.length c := by
  rcases h.2 with ⟨rfl, h1⟩ | ⟨g, cap, cur, rfl, _⟩
  · exact ⟨none, 0, by rw [h1]⟩
  · exact ⟨_, _, rfl⟩
theorem OutS.soft {c base B : Nat} {av : Option Addr} {cap : Nat} {L : List UInt8} {W W' : World} (h : OutS c base av cap L W) (s : Soft B W W') : OutS c base av cap L W' :=
  ⟨s.cell h.cell, s.frozen h.cell h.free, own_soft h.own s, h.lt⟩
theorem OutS.keep {c base : Nat} {av : Option Addr} {cap : Nat} {L : List UInt8} {W W' : World} (h : OutS c base av cap L W) (hb : Below W.heap.size W W') : OutS c base av cap L W' :=
  ⟨bkeep hb h.cell, bkeepf hb h.cell h.free, own_below (w0 := W) h.own hb, h.lt⟩
/-- what the append and the store behind it leave -/
theorem OutS.next {c base : Nat} {av : Option Addr} {cap : Nat} {L X : List UInt8} {W w' : World} {v' : Value} (h : OutS c base av cap L W) (o : Obj)
    (hown : w'.ownsRow base 5 1 v' (L ++ X).length (Lib.byteCells (L ++ X))) (hg : (W.alloc o).grownBy w' (Value.slice av L.length cap).ownBlock) :
    ∃ av' cap', v' = .slice av' (L ++ X).length cap' ∧ OutS c base av' cap' (L ++ X) (w'.setCell ⟨c, 0, none⟩ v') ∧ KeepsOthers W (w'.setCell ⟨c, 0, none⟩ v') ∧ w'.cell? ⟨c, 0, none⟩ = some (.slice av L.length cap) ∧ w'.frozen? ⟨c, 0, none⟩ = false := by
  obtain ⟨av', cap', rfl⟩ := own_shape hown
  have hne : some c ≠ (Value.slice av L.length cap).ownBlock := fun e => by
    have := (h.own.lt c e.symm).1
    have := h.lt
    omega
  have c0 : w'.cell? ⟨c, 0, none⟩ = some (.slice av L.length cap) := hg.cell (cell_alloc h.cell o) hne
  have cf : w'.frozen? ⟨c, 0, none⟩ = false := by
    rw [World.frozen?_of_block (hg.block c (by have := cell_lt h.cell; simp; omega) hne)]
    exact bkeepf (bal (Below.refl _ _) _) h.cell h.free
  refine ⟨av', cap', rfl, ⟨cell_here c0 _, by rw [World.frozen?_setCell]; exact cf, own_put hown _ _ h.lt, h.lt⟩, ?_, c0, cf⟩
  refine ((KeepsOthers.alloc W o).trans (KeepsOthers.of_grownBy hg ?_)).trans (KeepsOthers.setCell _ _ _)
  intro j o' hj ho'
  rcases (h.own.alloc o).2 with ⟨h0, _⟩ | ⟨g, cap2, cur, h0, hb, hgg, rest⟩
  · rw [h0] at hj; simp [Value.ownBlock] at hj
  · rw [h0] at hj; simp [Value.ownBlock] at hj
    subst hj
    rw [hgg] at ho'; cases ho'; rfl
theorem OutS.str {c base : Nat} {av : Option Addr} {cap : Nat} {L : List UInt8} {W : World} (h : OutS c base av cap L W) : (convert 68 9 (.slice av L.length cap)).run Tryd.prog W = .ok (.string ⟨L.toArray⟩) W := by
  rcases h.own.2 with ⟨h1, h2⟩ | ⟨g, cap2, cur, h1, hb, hgg, rest⟩
  · obtain rfl : L = [] := List.length_eq_zero_iff.1 h2
    cases h1
    exact run_convert_bytes_nil W 68 5 Tryd.underlying68 Tryd.underlying5 0 0 9 Tryd.underlying9
  · cases h1
    have ho := h.own
    refine run_convert_bytes_back W 68 9 5 ⟨g, 0, none⟩ cap L Tryd.underlying68 Tryd.underlying5 Tryd.underlying9 fun j hj => ?_
    have := World.ownsRow.cellAt ho j (by omega)
    rw [bcells_get L j hj] at this
    unfold Addr.add
    split
    · subst_vars; simpa [hj] using this
    · simpa [hj] using this
theorem dig_map (L : List Nat) (h : ∀ d ∈ L, d < 10) : L.map (fun x => dig (x % 10)) = L.map dig := List.map_congr_left fun x hx => by rw [Nat.mod_eq_of_lt (h x hx)]
theorem digL_len {l : List Nat} (hl : Limbs l) (h1 : l.length ≤ 67108865) : (digL (val l)).length ≤ 2147483680 := by
  have h2 := val_lt hl
  rw [BB_pow] at h2
  have h3 := lowD_len _ _ h2
  unfold digL
  split
  · simp
  · rw [List.length_reverse]; omega
/-- a number's text: its sign, its digits -/
theorem intTxt_eq (n : Bool) (V : Nat) (hn : n = true → 0 < V) : intTxt (sg n V) = (if n then [45] else []) ++ (digL V).map (fun x => dig (x % 10)) := by
  have hd := digL_txt V
  have e : natTxt V = (digL V).map dig := hd.1
  rw [dig_map _ hd.2, ← e]
  unfold intTxt
  rw [sg_abs]
  cases n with
  | true => rw [if_pos (by have := hn rfl; simp [sg]; omega)]; rfl
  | false => rw [if_neg (by simp [sg])]; rfl


set_option maxRecDepth 100000 in
set_option maxHeartbeats 8000000 in
theorem intText_c (vx : Value) (x : Int) (k : Nat) (w : World) (hx : IsInt w vx x) (bx : Bd k x) (hk : k ≤ 2147483648) :
    Calls Tryd.prog 13 #[vx] w fun e w' => e = .returned (.string ⟨(intTxt x).toArray⟩) ∧ Below w.heap.size w w' := by
  obtain ⟨n1, a1, c1, l1, rfl, u1, g1, s1, rfl⟩ := hx
  have k1 : l1.length ≤ 67108865 := by
    by_cases h0 : l1 = []
    · subst h0; simp
    · have h1 := nrm_val_pos g1 h0
      rw [BB_pow] at h1
      have h2 : 32 * (l1.length - 1) < k := (Nat.pow_lt_pow_iff_right (a := 2) (by omega)).1 (Nat.lt_of_le_of_lt h1 (sg_bd bx))
      omega
  have HE := Lib.hid (intTxt_eq n1 (val l1) (fun h => by
    have h1 := nrm_val_pos g1 (s1 h)
    have : 0 < BB ^ (l1.length - 1) := Nat.pow_pos BB_pos
    omega))
  have HDL := Lib.hid (digL_len u1.2.2.1 k1)
  have HDT := Lib.hid (digL_txt (val l1))
  clear bx s1
  unfold iv
  obtain ⟨i0, z0, hi0, hz0, hsize0, hby0, hzs0⟩ := el8.info
  refine calls_of_wp_marks Tryd.func13 rfl ?_
  simp only [Tryd.ntmps13, List.size_toArray, List.length_cons, List.length_nil, Nat.reduceAdd, Nat.reduceSub, Array.replicate_succ, Array.replicate_zero, List.push_toArray, List.append_toArray, List.nil_append, List.cons_append, Array.append_empty, Array.empty_append]
  cases n1 with
  | false =>
    go_wp2_with fail
    refine (limbDigits_c a1 c1 l1 _ (u1.keep (bal (bal (Below.refl _ _) _) _)) k1).mono ?_
    rintro e wD ⟨B, rfl, hstr, hbD⟩
    have hO : OutS (w.heap.size + 1) (w.heap.size + 2) none 0 [] wD := OutS.keep ⟨cell_new (by simp) rfl, by rw [World.frozen?_alloc_at (hn := by simp)], World.ownsRow_nil _ _ _ _, by omega⟩ hbD
    have hBD : Below w.heap.size w wD := bthen (bal (bal (Below.refl _ _) _) _) hbD
    have HE := Lib.hid (show intTxt (sg false (val l1)) = ([] : List UInt8) ++ (digL (val l1)).map (fun x => dig (x % 10)) from HE.out)
    have hszD := hbD.size
    have hsD : w.heap.size + 2 ≤ wD.heap.size := by have := cell_lt hO.cell; omega
    go_wp2
    refine wp_rangeK (gf := 44) (lb := #[.pointer (some ⟨B, 0, none⟩)]) (w0 := wD) (L := digL (val l1)) (N := (digL (val l1)).length) (Kp := KeepsWalks) (by simp [Act.eval]) (enters_of Tryd.func44 (by kernel_rfl) rfl)
      (encs := fun x : Nat => #[.int .i64 ((x % 10 : Nat) : Int)]) (digits_stops B _ 8 _ _ wD HDT.out hstr (Nat.le_refl _)) (fun h k => walksK_t h k) (fun W l o o' h1 h2 h3 h4 => walksK_b W l o o' h1 h2 h3 h4) (Below.refl _ _) (fun _ => rfl)
      (fun pre W => (∃ av cap, OutS (w.heap.size + 1) (w.heap.size + 2) av cap (([] : List UInt8) ++ pre.map (fun x => dig (x % 10))) W) ∧ Below w.heap.size w W ∧ wD.heap.size ≤ W.heap.size)
      (fun c pre W => False)
      ?_ ?_ ?_ ?_ ?_
      (fun T x a' W => a' = { tmps := (T.setIfInBounds 13 (.int .i64 ((x % 10 : Nat) : Int))).setIfInBounds 4 (.int .i64 ((x % 10 : Nat) : Int)), defers := [] } ∧ wD.heap.size ≤ W.heap.size)
      ?_ ?_ ?assign0 ?body0 ?done0 ?stop0
    case assign0 =>
      rintro l pre x W K hi hK
      generalize x % 10 = d at *
      gi_wp2
      exact hK _ _ (KeepsFrom.refl _ _) (KeepsWalks.refl _) hi ⟨by simp, hi.2.2⟩
    case body0 =>
      rintro l pre x a' w6 ⟨⟨av6, cap6, hO6⟩, hB6, hs6⟩ ⟨rfl, _⟩ hl
      have hlm : (([] : List UInt8) ++ pre.map (fun x => dig (x % 10))).length ≤ 2147483690 := by
        have := HDL.out
        simp
        omega
      have HLN := Lib.hid (show ([] : List UInt8) ++ (pre ++ [x]).map (fun x => dig (x % 10)) = (([] : List UInt8) ++ pre.map (fun x => dig (x % 10))) ++ [dig (x % 10)] by simp)
      have hd10 : x % 10 < 10 := Nat.mod_lt _ (by omega)
      generalize ([] : List UInt8) ++ pre.map (fun x => dig (x % 10)) = Lp at *
      obtain ⟨bb, hbb⟩ : ∃ bb, bb = dig (x % 10) := ⟨_, rfl⟩
      rw [← hbb] at HLN
      have hb1 : (48 : Int) + ((x % 10 : Nat) : Int) = (bb.toNat : Int) := by rw [hbb, dig_nat hd10]; omega
      have hb2 : (bb.toNat : Int) % 256 = (bb.toNat : Int) := by have := bb.toNat_lt; omega
      clear hbb
      generalize x % 10 = d at *
      have c0 := hO6.cell
      have cf := hO6.free
      have hsz6 := cell_lt c0
      simp only [List.setIfInBounds_toArray, List.set_cons_succ, List.set_cons_zero]
      gi_wp2_with (gi_at_builtin; refine wpListIn_append_own _ rfl _ _ 68 rfl (w.heap.size + 2) 5 i0 z0 1 1 el8.ht hi0 hz0 hsize0 hby0 hzs0 el8.pos (.slice av6 Lp.length cap6) Lp.length (Lib.byteCells Lp) rfl (hO6.own.alloc _) ⟨w6.heap.size, 0, none⟩ 1 1 [.int .u8 (bb.toNat : Int)] rfl rfl (cell_one_new _ _ _) ?_ ?_ ?_ ?_ ?_; (simp [Value.oneCell']); (unfold maxLen; omega); omega; (simp; omega); intro v' w7 hown hg _; obtain ⟨av7, cap7, rfl, hO7, hKO, c7, f7⟩ := OutS.next hO6 (X := [bb]) _ (by rw [bcells_app, List.length_append]; exact hown) hg)
      have hB7 : Below w.heap.size w w7 := (bal hB6 _).grown hg (by simp; omega) (fun k e => by have := (hO6.own.lt k e).1; omega)
      have e7 : (Lp ++ [bb]).length = Lp.length + 1 := by simp
      rw [e7] at hO7 hKO
      have hs7 := hg.size
      simp at hs7
      refine ⟨hKO.from _, hKO.walks, ⟨_, _, by rw [HLN.out]; exact hO7⟩, bset hB7 (by simp) _, by simp; omega⟩
    case done0 =>
      rintro D w8 hDs ⟨⟨av8, cap8, hO8⟩, hB8, hs8⟩ hK0
      rw [← HE.out] at hO8
      have c0 := hO8.cell
      have hst := hO8.str
      go_wp2
      refine ⟨by simp, .inl ⟨_, _, rfl, run_takeDeferred (b := D) (ds := []) hK0, ?_⟩⟩
      refine ⟨.string ⟨(intTxt (sg false (val l1))).toArray⟩, ?_, rfl, b_put hB8 (by omega) _⟩
      simp [results, Tryd.results13, go_sem]
    case stop0 => intro D c pre W _ _ h; cases h
    · rintro pre W W' ⟨⟨av, cap, h⟩, h2, h3⟩ s; exact ⟨⟨av, cap, h.soft s⟩, h2.trans (s.below.mono (by omega)), Nat.le_trans h3 s.below.size⟩
    · exact fun c pre W W' h s => h
    · exact fun pre W h => h.2.2
    · exact fun c pre W h => h.elim
    · exact ⟨⟨_, _, by simpa using hO⟩, hBD, Nat.le_refl _⟩
    · rintro x a' W W' ⟨rfl, h⟩ s; exact ⟨rfl, Nat.le_trans h s.below.size⟩
    · rintro x a' W ⟨rfl, h⟩; exact h
  | true =>
    have hO0 : OutS (w.heap.size + 1) (w.heap.size + 2) none 0 [] ((w.alloc (.cells #[.bool true, .slice a1 l1.length c1] 31)).alloc (.cells #[.slice none 0 0] 68)) := ⟨cell_new (by simp) rfl, by rw [World.frozen?_alloc_at (hn := by simp)], World.ownsRow_nil _ _ _ _, by omega⟩
    have x00 : (((w.alloc (.cells #[.bool true, .slice a1 l1.length c1] 31)).alloc (.cells #[.slice none 0 0] 68)).alloc (.cells #[.int .u8 45] 5)).cell? ⟨w.heap.size, 1, none⟩ = some (.slice a1 l1.length c1) := cell_alloc (cell_alloc (cell_new rfl rfl) _) _
    have hnw : ∀ j u, [Value.int .u8 45][j]? = some u → (((w.alloc (.cells #[.bool true, .slice a1 l1.length c1] 31)).alloc (.cells #[.slice none 0 0] 68)).alloc (.cells #[.int .u8 45] 5)).cell? ((⟨w.heap.size + 1 + 1, 0, none⟩ : Addr).add j) = some u := fun j u hj => by
      have h := cell_one_new ((w.alloc (.cells #[.bool true, .slice a1 l1.length c1] 31)).alloc (.cells #[.slice none 0 0] 68)) (.int .u8 45) 5 j u hj
      simpa using h
    go_wp2_with (at_builtin; go_loud (refine wpList_append_own _ rfl _ _ 68 rfl (w.heap.size + 2) 5 i0 z0 1 1 el8.ht hi0 hz0 hsize0 hby0 hzs0 el8.pos (.slice none 0 0) 0 [] rfl (World.ownsRow_nil _ _ _ _) ⟨w.heap.size + 1 + 1, 0, none⟩ 1 1 [.int .u8 45] rfl rfl hnw ?_ ?_ ?_ ?_ ?_; (simp [Value.oneCell']); (unfold maxLen; omega); omega; (simp); intro v' w7 hown hg _; obtain ⟨av7, cap7, rfl, hO7, hKO, c7, f7⟩ := OutS.next hO0 (X := [45]) _ hown hg; have x1 := hg.cell x00 (by simp [Value.ownBlock])))
    have hB7 : Below w.heap.size w w7 := (bal (bal (bal (Below.refl _ _) _) _) _).grown hg (by simp; omega) (fun k e => by simp [Value.ownBlock] at e)
    have hs7 := hg.size
    simp at hs7
    refine (limbDigits_c a1 c1 l1 _ (u1.keep (bset hB7 (by simp) _)) k1).mono ?_
    rintro e wD ⟨B, rfl, hstr, hbD⟩
    have hO := hO7.keep hbD
    have hBD : Below w.heap.size w wD := bthen (bset hB7 (by simp) _) hbD
    have HE := Lib.hid (show intTxt (sg true (val l1)) = ([45] : List UInt8) ++ (digL (val l1)).map (fun x => dig (x % 10)) from HE.out)
    have hszD := hbD.size
    have hsD : w.heap.size + 2 ≤ wD.heap.size := by have := cell_lt hO.cell; omega
    go_wp2
    refine wp_rangeK (gf := 44) (lb := #[.pointer (some ⟨B, 0, none⟩)]) (w0 := wD) (L := digL (val l1)) (N := (digL (val l1)).length) (Kp := KeepsWalks) (by simp [Act.eval]) (enters_of Tryd.func44 (by kernel_rfl) rfl)
      (encs := fun x : Nat => #[.int .i64 ((x % 10 : Nat) : Int)]) (digits_stops B _ 8 _ _ wD HDT.out hstr (Nat.le_refl _)) (fun h k => walksK_t h k) (fun W l o o' h1 h2 h3 h4 => walksK_b W l o o' h1 h2 h3 h4) (Below.refl _ _) (fun _ => rfl)
      (fun pre W => (∃ av cap, OutS (w.heap.size + 1) (w.heap.size + 2) av cap (([45] : List UInt8) ++ pre.map (fun x => dig (x % 10))) W) ∧ Below w.heap.size w W ∧ wD.heap.size ≤ W.heap.size)
      (fun c pre W => False)
      ?_ ?_ ?_ ?_ ?_
      (fun T x a' W => a' = { tmps := (T.setIfInBounds 13 (.int .i64 ((x % 10 : Nat) : Int))).setIfInBounds 4 (.int .i64 ((x % 10 : Nat) : Int)), defers := [] } ∧ wD.heap.size ≤ W.heap.size)
      ?_ ?_ ?assign0 ?body0 ?done0 ?stop0
    case assign0 =>
      rintro l pre x W K hi hK
      generalize x % 10 = d at *
      gi_wp2
      exact hK _ _ (KeepsFrom.refl _ _) (KeepsWalks.refl _) hi ⟨by simp, hi.2.2⟩
    case body0 =>
      rintro l pre x a' w6 ⟨⟨av6, cap6, hO6⟩, hB6, hs6⟩ ⟨rfl, _⟩ hl
      have hlm : (([45] : List UInt8) ++ pre.map (fun x => dig (x % 10))).length ≤ 2147483690 := by
        have := HDL.out
        simp
        omega
      have HLN := Lib.hid (show ([45] : List UInt8) ++ (pre ++ [x]).map (fun x => dig (x % 10)) = (([45] : List UInt8) ++ pre.map (fun x => dig (x % 10))) ++ [dig (x % 10)] by simp)
      have hd10 : x % 10 < 10 := Nat.mod_lt _ (by omega)
      generalize ([45] : List UInt8) ++ pre.map (fun x => dig (x % 10)) = Lp at *
      obtain ⟨bb, hbb⟩ : ∃ bb, bb = dig (x % 10) := ⟨_, rfl⟩
      rw [← hbb] at HLN
      have hb1 : (48 : Int) + ((x % 10 : Nat) : Int) = (bb.toNat : Int) := by rw [hbb, dig_nat hd10]; omega
      have hb2 : (bb.toNat : Int) % 256 = (bb.toNat : Int) := by have := bb.toNat_lt; omega
      clear hbb
      generalize x % 10 = d at *
      have c0 := hO6.cell
      have cf := hO6.free
      have hsz6 := cell_lt c0
      simp only [List.setIfInBounds_toArray, List.set_cons_succ, List.set_cons_zero]
      gi_wp2_with (gi_at_builtin; refine wpListIn_append_own _ rfl _ _ 68 rfl (w.heap.size + 2) 5 i0 z0 1 1 el8.ht hi0 hz0 hsize0 hby0 hzs0 el8.pos (.slice av6 Lp.length cap6) Lp.length (Lib.byteCells Lp) rfl (hO6.own.alloc _) ⟨w6.heap.size, 0, none⟩ 1 1 [.int .u8 (bb.toNat : Int)] rfl rfl (cell_one_new _ _ _) ?_ ?_ ?_ ?_ ?_; (simp [Value.oneCell']); (unfold maxLen; omega); omega; (simp; omega); intro v' w7 hown hg _; obtain ⟨av7, cap7, rfl, hO7, hKO, c7, f7⟩ := OutS.next hO6 (X := [bb]) _ (by rw [bcells_app, List.length_append]; exact hown) hg)
      have hB7 : Below w.heap.size w w7 := (bal hB6 _).grown hg (by simp; omega) (fun k e => by have := (hO6.own.lt k e).1; omega)
      have e7 : (Lp ++ [bb]).length = Lp.length + 1 := by simp
      rw [e7] at hO7 hKO
      have hs7 := hg.size
      simp at hs7
      refine ⟨hKO.from _, hKO.walks, ⟨_, _, by rw [HLN.out]; exact hO7⟩, bset hB7 (by simp) _, by simp; omega⟩
    case done0 =>
      rintro D w8 hDs ⟨⟨av8, cap8, hO8⟩, hB8, hs8⟩ hK0
      rw [← HE.out] at hO8
      have c0 := hO8.cell
      have hst := hO8.str
      go_wp2
      refine ⟨by simp, .inl ⟨_, _, rfl, run_takeDeferred (b := D) (ds := []) hK0, ?_⟩⟩
      refine ⟨.string ⟨(intTxt (sg true (val l1))).toArray⟩, ?_, rfl, b_put hB8 (by omega) _⟩
      simp [results, Tryd.results13, go_sem]
    case stop0 => intro D c pre W _ _ h; cases h
    · rintro pre W W' ⟨⟨av, cap, h⟩, h2, h3⟩ s; exact ⟨⟨av, cap, h.soft s⟩, h2.trans (s.below.mono (by omega)), Nat.le_trans h3 s.below.size⟩
    · exact fun c pre W W' h s => h
    · exact fun pre W h => h.2.2
    · exact fun c pre W h => h.elim
    · exact ⟨⟨_, _, by simpa using hO⟩, hBD, Nat.le_refl _⟩
    · rintro x a' W W' ⟨rfl, h⟩ s; exact ⟨rfl, Nat.le_trans h s.below.size⟩
    · rintro x a' W ⟨rfl, h⟩; exact h
end Go.Proofs.YtdllbdfchloijaaDoor

/- exact's laws: row.Of, row.Text at one number; live. -/
namespace Go.Proofs.YtdllbdfchloijaaDoor
open Num
open Go.ChangeShapes Go.WideShapes Go.ChangeAt Go.RowKit
set_option linter.unusedVariables false
set_option linter.unusedSimpArgs false
attribute [local go_sem ↓] Go.wp_at_zero Go.wp_at_succ
end Go.Proofs.YtdllbdfchloijaaDoor

/- eval's laws: points, list. -/
namespace Go.Proofs.YtdllbdfchloijaaDoor
open Pt
open Num
open Go.ChangeShapes Go.WideShapes Go.ChangeAt Go.RowKit
set_option linter.unusedVariables false
set_option linter.unusedSimpArgs false
attribute [local go_sem ↓] Go.wp_at_zero Go.wp_at_succ
set_option maxRecDepth 100000 in
set_option maxHeartbeats 4000000 in
theorem points11_c (b off c N m : Nat) (L : List Int) (w : World) (hN : N = 2 * m) (hm : m ≤ 1000) (hc : ∀ k, k < N → w.cell? ⟨b, off + k, none⟩ = some (.int .i64 (L.getD k 0))) :
    Calls Tryd.prog 15 #[.slice (some ⟨b, off, none⟩) N c] w fun e w' => (∃ a' c', e = .returned (.slice a' m c') ∧ PtsV w' a' m c' (evF L)) ∧ Below w.heap.size w w' := by
  have HC := Lib.hid hc
  have HN := Lib.hid hN
  clear hc hN
  have hB := Below.refl w.heap.size w
  go_enter Tryd.func15, Tryd.ntmps15
  go_wp2
  go_loopw [3, 4] (fun v x wr => ∃ k i : Nat, Hid (k ≤ m ∧ i = 2 * k) ∧ x = .int .i64 i ∧ Hid (OwnE 24 2 w wr v k (pcells (upL (evF L) k)))) (fun _ x _ => N + 1 - (intOf x).toNat)
  case atStart => exact ⟨0, 0, Lib.hid ⟨Nat.zero_le _, rfl⟩, rfl, Lib.hid (OwnE.nil _ _ (by repeat (first | exact Below.refl _ _ | exact hB | refine Below.drew ?_ | refine below_drewN ?_ _ | refine bset ?_ (by simp <;> omega) _ | refine bal ?_ _)))⟩
  case round =>
    obtain ⟨k, i, hki, rfl, hO⟩ := hrel
    have hBr := hO.out.2
    obtain ⟨va, vc, rfl⟩ := hO.out.ex
    have hw : wrap64 ((i : Int) + 1) = (i : Int) + 1 := by have := hki.out; unfold wrap64; omega
    by_cases hlt : k < m
    · have hiN : i + 1 < N := by have := hki.out; have := HN.out; omega
      have hI : (i : Int) + 1 < (N : Int) := by omega
      have d0 := bkeep hBr (HC.out i (by omega))
      have d1 := bkeep hBr (HC.out (i + 1) hiN)
      have zd := cell_lt d0
      have HE := Lib.hid (show evF L k = (L.getD i 0, L.getD (i + 1) 0) by unfold evF; rw [hki.out.2])
      obtain ⟨x, hx⟩ : ∃ x, L.getD i 0 = x := ⟨_, rfl⟩
      obtain ⟨y, hy⟩ : ∃ y, L.getD (i + 1) 0 = y := ⟨_, rfl⟩
      rw [hx] at d0 HE
      rw [hy] at d1 HE
      have hKI := Lib.hid (show k + 1 ≤ m ∧ i + 2 = 2 * (k + 1) ∧ i < N by have := hki.out; omega)
      have hk9 : k + 1 ≤ 1099511627776 := by omega
      have HS := Lib.hid (show ∀ V, Below w.heap.size w V → V.cell? ⟨b, off + i, none⟩ = some (.int .i64 x) ∧ V.cell? ⟨b, off + (i + 1), none⟩ = some (.int .i64 y) from fun V q => ⟨by rw [← hx]; exact bkeep q (HC.out i (by omega)), by rw [← hy]; exact bkeep q (HC.out (i + 1) hiN)⟩)
      have hBc := hBr
      have hI0 : (i : Int) < (N : Int) := by omega
      have hI6 : i < N := by omega
      have hI7 : (0 : Int) ≤ (i : Int) + 1 := by omega
      have hw2 : IntKind.i64.wrap ((i : Int) + 1) = (i : Int) + 1 := (IntWalk.i64_left _).trans hw
      have hw3 : wrap64 ((i : Int) + 2) = (i : Int) + 2 := by have := hki.out; unfold wrap64; omega
      clear hx hy hlt
      go_wp2
      go_region_held3 (fun V => V.cell? ⟨b, off + i, none⟩ = some (.int .i64 x) ∧ V.cell? ⟨b, off + (i + 1), none⟩ = some (.int .i64 y))
        (first | (refine HS.out _ ?_; (repeat (first | exact Below.refl _ _ | exact hBc | refine Below.drew ?_ | refine below_drewN ?_ _ | refine bset ?_ (by simp <;> omega) _ | refine bal ?_ _)); done) | fail)
        (first
        | (refine step_lit elPt (by rfl) (by rfl) (hO.out.below (below_drewN (Below.refl _ _) _)) (by rfl) (by rfl) (m := 1) (C := [.int .i64 x, .int .i64 y]) rfl (pcells_one [(x, y)]) hk9 ?_; intro v' w8 hO8; have HO8 := Lib.hid (hO8.pts HE.out); (clear hBc; have hBc := hO8.2); clear hO8)
        | (refine step_lit elPt (by rfl) (by rfl) hO.out (by rfl) (by rfl) (m := 1) (C := [.int .i64 x, .int .i64 y]) rfl (pcells_one [(x, y)]) hk9 ?_; intro v' w8 hO8; have HO8 := Lib.hid (hO8.pts HE.out); (clear hBc; have hBc := hO8.2); clear hO8)
        | fail)
      all_goals
        go_wp2
        exact ⟨⟨k + 1, i + 2, Lib.hid ⟨hKI.out.1, hKI.out.2.1⟩, by go_num, HO8⟩, meas2 hKI.out.2.2 (by go_num) rfl⟩
    · obtain rfl : k = m := by have := hki.out; omega
      have hI : ¬ (i : Int) + 1 < (N : Int) := by have := hki.out; have := HN.out; omega
      clear hlt
      go_wp2
      go_ret
      obtain ⟨a', c', e, hc, hu, hfr, hfree⟩ := own_pts (n := k) (f := evF L) hO.out.1 rfl
      obtain ⟨rfl, -, rfl⟩ := Value.slice.inj e
      exact ⟨⟨_, _, rfl, hu⟩, hBr⟩
set_option maxRecDepth 100000 in
set_option maxHeartbeats 8000000 in
theorem list11_c (v : Value) (l : List Int) (w : World) (hr : RowI w v l) (hl : l.length ≤ 400) :
    Calls Tryd.prog 8 #[v] w fun e w' => (∃ va, e = .returned va ∧ RowO IsInt 31 w.heap.size w' va l) ∧ Below w.heap.size w w' := by
  obtain ⟨ra, rc, rfl, hr⟩ := hr
  have HR := Lib.hid hr
  clear hr
  have hB := Below.refl w.heap.size w
  go_enter Tryd.func8, Tryd.ntmps8
  go_wp2
  go_loopw [3, 8] (fun va x wr => ∃ j : Nat, j ≤ l.length ∧ x = .int .i64 j ∧ Hid (OwnF IsInt 31 w wr va j (fun i => l.getD i 0))) (fun _ x _ => l.length - (intOf x).toNat)
  case atStart => exact ⟨0, Nat.zero_le _, rfl, Lib.hid (OwnF.nil _ _ _ hB)⟩
  case round =>
    obtain ⟨j, hj, rfl, hF⟩ := hrel
    have hBr := hF.out.bel
    obtain ⟨fa, fc, hfv⟩ : ∃ a c, _ = Value.slice a j c := by obtain ⟨a, c, h, _⟩ := hF.out.view; exact ⟨a, c, h⟩
    subst hfv
    by_cases hlt : j < l.length
    · have hltI : (j : Int) < (l.length : Int) := by omega
      obtain ⟨rb, ro, rfl, hc, hI⟩ := HR.out j hlt
      have hc2 := bkeep hBr hc
      have zrb := cell_lt hc2
      have oc := fun W => of_c (l.getD j 0) W hI.1 hI.2
      have HSN := Lib.hid (snoc_fun l j hlt)
      obtain ⟨z, hz⟩ : ∃ z, l.getD j 0 = z := ⟨_, rfl⟩
      rw [hz] at hc2 oc HSN
      clear hc hI hz
      go_wp2_with fail
      refine (oc _).mono ?_
      rintro e w5 ⟨⟨v5, rfl, hi5⟩, hb5⟩
      have HF5 := Lib.hid (hF.out.below lims_int hb5)
      have HI5 := Lib.hid hi5
      obtain ⟨n5, a5, c5, l5, rfl, -⟩ := hi5
      unfold iv at *
      clear oc hc2
      go_wp2_with (at_builtin; refine app_num elInt (by decide) lims_int (by rfl) (by rfl) HF5.out HI5.out (by rfl) (by rfl) (by omega) ?_)
      intro v8 w8 hF8 _ _
      have HF8 := Lib.hid (hF8.congr' HSN.out)
      clear hF8
      go_wp2
      exact ⟨⟨j + 1, by omega, by go_num, HF8⟩, by simp [intOf]; omega⟩
    · obtain rfl : j = l.length := by omega
      go_wp2
      go_ret
      exact ⟨⟨_, rfl, hF.out.rowO⟩, hBr⟩
end Go.Proofs.YtdllbdfchloijaaDoor

/- eval: points: may points be asked? -/
namespace Go.Proofs.YtdllbdfchloijaaDoor
open Pt
open Num
open Go.ChangeShapes Go.WideShapes Go.ChangeAt Go.RowKit
set_option linter.unusedVariables false
set_option linter.unusedSimpArgs false
attribute [local go_sem ↓] Go.wp_at_zero Go.wp_at_succ
/-- points that may be asked -/
def PtsOk (n : Nat) (f : Nat → Int × Int) : Prop := 1 ≤ n ∧ n ≤ 15 ∧ ∀ i, i < n → PIn (f i).1 (f i).2
def ptsB (n : Nat) (f : Nat → Int × Int) : Bool := (decide (1 ≤ n) && decide (n ≤ 15)) && (List.range n).all fun i => inB (f i).1 (f i).2
theorem ptsB_iff (n : Nat) (f : Nat → Int × Int) : ptsB n f = true ↔ PtsOk n f := by
  unfold ptsB PtsOk
  simp only [Bool.and_eq_true, decide_eq_true_eq, List.all_eq_true, List.mem_range, inB_iff, PIn, and_assoc]
theorem ptsB_no {n : Nat} {f : Nat → Int × Int} (h : ¬ PtsOk n f) : ptsB n f = false := by
  rw [Bool.eq_false_iff]; exact fun e => h ((ptsB_iff n f).1 e)
theorem PtsV.atE {w : World} {a : Option Addr} {n cap i : Nat} {f : Nat → Int × Int} (h : PtsV w a n cap f) (hi : i < n) : ∃ b off, a = some ⟨b, off, none⟩ ∧ n ≤ cap ∧ w.cell? ⟨b, off + i * 2, none⟩ = some (.int .i64 (f i).1) ∧ w.cell? ⟨b, off + i * 2 + 1, none⟩ = some (.int .i64 (f i).2) := by
  rcases h with h | ⟨b, off, rfl, h2, h3⟩
  · omega
  · exact ⟨b, off, rfl, h2, (h3 i hi).1, (h3 i hi).2⟩
set_option maxRecDepth 100000 in
set_option maxHeartbeats 4000000 in
theorem evPoints_c (a : Option Addr) (n cap : Nat) (f : Nat → Int × Int) (w : World) (h : PtsV w a n cap f) (hn : n ≤ 4611686018427387904) :
    Calls Tryd.prog 31 #[.slice a n cap] w fun e w' => e = .returned (.bool (ptsB n f)) ∧ Below w.heap.size w w' := by
  have hB := Below.refl w.heap.size w
  have HP := Lib.hid h
  clear h
  go_enter Tryd.func31, Tryd.ntmps31
  go_wp2
  go_loopw [7] (fun x wr => ∃ j : Nat, j ≤ n ∧ x = .int .i64 j ∧ Below w.heap.size w wr ∧ Hid (∀ t, t < j → inB (f t).1 (f t).2 = true)) (fun x _ => n - (intOf x).toNat)
  case atStart => exact ⟨0, Nat.zero_le _, rfl, hB, Lib.hid (fun t ht => by omega)⟩
  case round =>
    obtain ⟨j, hj, rfl, hBr, hE⟩ := hrel
    by_cases hlt : j < n
    · have hltI : (j : Int) < (n : Int) := by omega
      obtain ⟨b, off, e, hcap, c0, c1⟩ := (HP.out.keep hBr).atE hlt
      subst e
      have zb := cell_lt c0
      obtain ⟨q, hq⟩ : ∃ q, f j = q := ⟨_, rfl⟩
      rw [hq] at c0 c1
      obtain ⟨q1, q2⟩ := q
      obtain ⟨v, hv⟩ : ∃ v, inB q1 q2 = v := ⟨_, rfl⟩
      have NC := Lib.hid (fun W => ptIn_v q1 q2 v W hv)
      have HV := Lib.hid (show inB (f j).1 (f j).2 = v by rw [hq]; exact hv)
      have hBw := Below.refl wr.heap.size wr
      have HLT := Lib.hid hlt
      clear hq hv hcap
      go_wp2_with fail
      (with_reducible refine (NC.out _).mono ?_)
      rintro e w5 ⟨rfl, hb5⟩
      have hB5 := bthen hBr (bthen (show Below wr.heap.size wr _ by repeat (first | exact Below.refl _ _ | exact hBw | refine Below.drew ?_ | refine below_drewN ?_ _ | refine bset ?_ (by simp <;> omega) _ | refine bal ?_ _)) hb5)
      cases v with
      | false =>
        have HNO := Lib.hid (show ptsB n f = false from ptsB_no fun k => by
          have h1 := inB_yes (k.2.2 j HLT.out)
          rw [HV.out] at h1; cases h1)
        go_wp2
        go_ret
        exact ⟨ret_bool HNO.out.symm, hB5⟩
      | true =>
        have HE2 := Lib.hid (show ∀ t, t < j + 1 → inB (f t).1 (f t).2 = true from fun t ht => by
          by_cases e : t = j
          · subst e; exact HV.out
          · exact hE.out t (by omega))
        go_wp2
        exact ⟨⟨j + 1, hlt, by go_num, hB5, HE2⟩, measS hlt (by go_num) rfl⟩
    · obtain rfl : j = n := by omega
      have hltI : ¬ (j : Int) < (j : Int) := by omega
      by_cases h1 : 1 ≤ j
      · have h1I : (1 : Int) ≤ (j : Int) := by omega
        by_cases h2 : j ≤ 15
        · have h2I : (j : Int) ≤ 15 := by omega
          have HM := Lib.hid (show ptsB j f = true from (ptsB_iff j f).2 ⟨h1, h2, fun i hi => (inB_iff _ _).1 (hE.out i hi)⟩)
          go_wp2
          go_ret
          exact ⟨ret_bool HM.out.symm, hBr⟩
        · have h2I : ¬ (j : Int) ≤ 15 := by omega
          have HM := Lib.hid (show ptsB j f = false from ptsB_no fun k => h2 k.2.1)
          go_wp2
          go_ret
          exact ⟨ret_bool HM.out.symm, hBr⟩
      · have h1I : ¬ (1 : Int) ≤ (j : Int) := by omega
        have HM := Lib.hid (show ptsB j f = false from ptsB_no fun k => h1 k.1)
        go_wp2
        go_ret
        exact ⟨ret_bool HM.out.symm, hBr⟩
end Go.Proofs.YtdllbdfchloijaaDoor

/- row: each. -/
namespace Go.Proofs.YtdllbdfchloijaaDoor
open Num
open Go.ChangeShapes Go.WideShapes Go.ChangeAt Go.RowKit
set_option linter.unusedVariables false
set_option linter.unusedSimpArgs false

/-- a row of the call's own (from base on), by a function -/
def OwnNB (base : Nat) (w : World) (v : Value) (n : Nat) (f : Nat → Int) : Prop :=
  ∃ xs, w.ownsRow base 31 2 v n xs ∧ ∀ k, k < n → ∃ nb a len c, xs[k * 2]? = some (.bool nb) ∧ xs[k * 2 + 1]? = some (.slice a len c) ∧ IsInt w (.agg #[.bool nb, .slice a len c]) (f k)
section
variable {base : Nat} {w w' : World} {v : Value} {n : Nat} {f : Nat → Int}
theorem OwnNB.nil (base : Nat) (w : World) (f : Nat → Int) : OwnNB base w (.slice none 0 0) 0 f := ⟨[], World.ownsRow_nil _ _ _ _, fun k hk => absurd hk (by omega)⟩
theorem OwnNB.kp {S : TypeId → Prop} (h : OwnNB base w v n f) (k : Kp S w w') (h1 : S 31) (h2 : S 83) : OwnNB base w' v n f := by
  obtain ⟨xs, hO, h⟩ := h
  refine ⟨xs, owns_kp hO k h1, fun j hj => ?_⟩
  obtain ⟨nb, a, len, c, k1, k2, k3⟩ := h j hj
  exact ⟨nb, a, len, c, k1, k2, k3.lim (k.lim h2)⟩
theorem OwnNB.keep (h : OwnNB base w v n f) (k : Below w.heap.size w w') : OwnNB base w' v n f := h.kp (S := fun _ => True) (Kp.of_below _ k) trivial trivial
theorem OwnNB.ex (h : OwnNB base w v n f) : ∃ a c, v = .slice a n c := by
  obtain ⟨xs, ⟨_, h1⟩, _⟩ := h
  rcases h1 with ⟨rfl, rfl⟩ | ⟨g, cap, cur, rfl, _⟩
  · exact ⟨none, 0, rfl⟩
  · exact ⟨_, _, rfl⟩
theorem OwnNB.congr {f' : Nat → Int} (h : OwnNB base w v n f) (he : ∀ k, k < n → f k = f' k) : OwnNB base w v n f' := by
  obtain ⟨xs, h1, h2⟩ := h
  exact ⟨xs, h1, fun k hk => by rw [← he k hk]; exact h2 k hk⟩
theorem OwnNB.rowO {l : List Int} (h : OwnNB base w v n f) (hl : l.length = n) (he : ∀ k, k < n → f k = l.getD k 0) : RowO IsInt 31 base w v l := by
  subst hl
  obtain ⟨xs, h1, h2⟩ := h
  exact ⟨xs, h1, fun k hk => by rw [← he k hk]; exact h2 k hk⟩
end
section
variable {P : Program} {ops : Array Oper} {o : Oper} {a : Act} {Q : Exit → Act → World → Prop} {base : Nat} {wr : World} {v : Value} {n : Nat} {f : Nat → Int} {t : TypeId} {s x : Operand} {nb : Bool} {ad : Option Addr} {len c cc : Nat} {z : Int}
/-- append of one number to such a row -/
theorem app_numB {rest : List Oper} (hgd : o.guard = none)
    (ho : o.op = .call { callee := .builtin .append, args := #[s, x], argTypes := #[27, 27] }) (hO : OwnNB base wr v n f) (hbase : base ≤ wr.heap.size) (hv : IsInt wr (.agg #[.bool nb, .slice ad len c]) z) (hs : a.eval s = v)
    (hx : a.eval x = .slice (some ⟨wr.heap.size, 0, none⟩) 1 cc) (hn : n + 1 ≤ 1099511627776)
    (h : ∀ v' w', OwnNB base w' v' (n + 1) (fun i => if i = n then z else f i) → Kp (· ≠ 31) wr w' → Out (fun k => base ≤ k) wr w' → wpList Tryd.prog ops Q rest (a.put o.dst v') w') : wpList Tryd.prog ops Q (o :: rest) a (wr.alloc (.cells #[.bool nb, .slice ad len c] t)) := by
  obtain ⟨i, z0, hi, hz, hsize, hby, hzs⟩ := elInt.info
  obtain ⟨xs, h1, h2⟩ := hO
  refine wpList_append_own _ hgd s x _ ho base 31 i z0 2 32 elInt.ht hi hz hsize hby hzs elInt.pos v n xs hs (h1.alloc _) ⟨wr.heap.size, 0, none⟩ 1 cc [.bool nb, .slice ad len c] hx rfl (cells_new wr _ t) (fun u hu => by simp at hu; rcases hu with rfl | rfl <;> rfl) (by unfold maxLen; omega) (by omega) (by simp; omega) ?_
  intro v' w' hown hg _
  have hk : Kp (· ≠ 31) wr w' := ((Kp.refl _ wr).alloc _).grown hg fun q hg' t' ht hne => hne (by
    rw [own_typ' (h1.alloc _) hg'] at ht
    exact (Option.some.inj ht).symm)
  have hl : Lim wr w' := hk.lim (by decide)
  refine h v' w' ⟨_, hown, fun k hk' => ?_⟩ hk (((Out.refl _ wr).alloc _).grown hg fun k hk' _ => (h1.lt k hk').1)
  by_cases e : k = n
  · subst e
    refine ⟨nb, ad, len, c, ?_, ?_, ?_⟩
    · rw [List.getElem?_append_right (by rw [h1.1]; omega), h1.1]; simp
    · rw [List.getElem?_append_right (by rw [h1.1]; omega), h1.1]; simp
    · simp only [if_true]; exact hv.lim hl
  · obtain ⟨nb1, a1, len1, c1, k1, k2, k3⟩ := h2 k (by omega)
    refine ⟨nb1, a1, len1, c1, ?_, ?_, ?_⟩
    · rw [List.getElem?_append_left (by rw [h1.1]; omega)]; exact k1
    · rw [List.getElem?_append_left (by rw [h1.1]; omega)]; exact k2
    · show IsInt _ _ (if k = n then z else f k)
      rw [if_neg e]; exact k3.lim hl
end
end Go.Proofs.YtdllbdfchloijaaDoor

/- row: each. -/
namespace Go.Proofs.YtdllbdfchloijaaDoor
open Num
open Go.ChangeShapes Go.WideShapes Go.ChangeAt Go.RowKit
set_option linter.unusedVariables false
set_option linter.unusedSimpArgs false
attribute [local go_sem ↓] Go.wp_at_zero Go.wp_at_succ
/-- what a function value does to the numbers l, one by one: P j holds ahead of the j-th; it writes ints of the blocks X alone -/
def FnE (X : Nat → Prop) (P : Nat → World → Prop) (l : List Int) (f : Nat → Int) (F : Nat) (bnd caps : Array Value) : Prop :=
  ∀ j W u, j < l.length → P j W → IsInt W u (l.getD j 0) → Calls Tryd.prog F (bnd ++ #[u] ++ caps) W fun e w' => (∃ x, e = .returned x ∧ IsInt w' x (f j)) ∧ P (j + 1) w' ∧ Kp (· ≠ 3) W w' ∧ Out X W w'
set_option maxRecDepth 100000 in
set_option maxHeartbeats 8000000 in
theorem each_c (v : Value) (l : List Int) (F : Nat) (bnd caps : Array Value) (f : Nat → Int) (P : Nat → World → Prop) (X : Nat → Prop) (w : World) (hv : PRow 0 w v l) (hl : l.length ≤ 1099511627775) (eF : Enters Tryd.prog F) (hP0 : P 0 w)
    (hPk : ∀ j W W', P j W → Kp (· ≠ 31) W W' → Out (fun k => w.heap.size ≤ k) W W' → P j W') (hX : ∀ b, X b → typOf w b = some 3) (hf : FnE X P l f F bnd caps) :
    Calls Tryd.prog 79 #[v, .func (.func F) bnd caps] w fun e w' => (∃ u, e = .returned u ∧ OwnNB w.heap.size w' u l.length f) ∧ P l.length w' ∧ Out X w w' := by
  have HV := Lib.hid hv
  have HPK := Lib.hid hPk
  have HX := Lib.hid hX
  have HF := Lib.hid hf
  have HP0 := Lib.hid hP0
  obtain ⟨va, vc, rfl, -⟩ := hv
  clear hPk hX hf hP0
  unfold Enters at eF
  have hO0 := Out.refl X w
  go_enter Tryd.func79, Tryd.ntmps79
  go_wp2
  go_loopw [5, 10] (fun v x wr => ∃ j : Nat, j ≤ l.length ∧ x = .int .i64 j ∧ Hid (OwnNB w.heap.size wr v j f) ∧ Hid (P j wr) ∧ Out X w wr) (fun _ x _ => l.length - (intOf x).toNat)
  case atStart => exact ⟨0, Nat.zero_le _, rfl, Lib.hid (OwnNB.nil _ _ _), HP0, hO0⟩
  case round =>
    obtain ⟨j, hj, rfl, hR, hP, hOr⟩ := hrel
    obtain ⟨fa, fc, hfv⟩ := hR.out.ex
    subst hfv
    by_cases hlt : j < l.length
    · have hltI : (j : Int) < (l.length : Int) := by omega
      have hkp : Kp (· ≠ 3) w wr := Kp.out hOr (fun q t hq ht k => by rw [HX.out q hq] at ht; exact k (Option.some.inj ht).symm)
      obtain ⟨a', c', he, -, vr⟩ := (HV.out.kp lims_int hkp (by decide) (by decide)).view
      obtain ⟨rfl, -, rfl⟩ := Value.slice.inj he
      obtain ⟨b, off, nx, ax, lx, cx, rfl, c0, c1, hi⟩ := vr j hlt
      have HI := Lib.hid hi
      have zb := cell_lt c0
      have hsz : w.heap.size ≤ wr.heap.size := hOr.size
      have fcl := fun W (q : Below wr.heap.size wr W) => HF.out j W (.agg #[.bool nx, .slice ax lx cx]) hlt (HPK.out j wr W hP.out (Kp.of_below _ q) (Out.of_below _ q)) (HI.out.keep q)
      have hBw := Below.refl wr.heap.size wr
      clear hi vr he
      have HSN := Lib.hid (show ∀ k, k < j + 1 → (fun i => if i = j then f j else f i) k = f k from fun k hk => by dsimp only; split; (subst_vars; rfl); rfl)
      obtain ⟨z, hz⟩ : ∃ z, f j = z := ⟨_, rfl⟩
      rw [hz] at fcl HSN
      clear hz
      go_wp2_with (first
        | (go_at_fn F; refine (fcl _ ?_).mono ?_; (repeat (first | exact Below.refl _ _ | exact hBw | refine Below.drew ?_ | refine below_drewN ?_ _ | refine bset ?_ (by simp <;> omega) _ | refine bal ?_ _)); rintro e w5 ⟨⟨x5, rfl, hx5⟩, hp5, hk5, ho5⟩; have HX5 := Lib.hid hx5; have HP5 := Lib.hid hp5; have hk5' : Kp (· ≠ 3) wr w5 := (Kp.of_below _ (by repeat (first | exact Below.refl _ _ | exact hBw | refine Below.drew ?_ | refine below_drewN ?_ _ | refine bset ?_ (by simp <;> omega) _ | refine bal ?_ _))).trans hk5; have ho5' : Out X wr w5 := (Out.of_below _ (by repeat (first | exact Below.refl _ _ | exact hBw | refine Below.drew ?_ | refine below_drewN ?_ _ | refine bset ?_ (by simp <;> omega) _ | refine bal ?_ _))).trans ho5; obtain ⟨n5, a5, c5, l5, rfl, -⟩ := hx5; unfold iv at *; have hR5 := Lib.hid (hR.out.kp hk5' (by decide) (by decide)); have hO5 : Out X w w5 := hOr.trans ho5'; have hz5 : w.heap.size ≤ w5.heap.size := hO5.size; clear fcl hp5 hk5 ho5)
        | (at_builtin; refine app_numB (by rfl) (by rfl) hR5.out hz5 HX5.out (by rfl) (by rfl) (by omega) ?_)
        | fail)
      intro v8 w8 hR8 hk8 ho8
      have HR8 := Lib.hid (hR8.congr HSN.out)
      have HP8 := Lib.hid (HPK.out _ _ _ HP5.out hk8 ho8)
      have hO8 : Out X w w8 := hO5.then ho8 (fun i h1 h2 => by omega)
      clear hR8 hk8 ho8
      go_wp2
      exact ⟨⟨j + 1, by omega, by go_num, HR8, HP8, hO8⟩, by simp [intOf]; omega⟩
    · obtain rfl : j = l.length := by omega
      go_wp2
      go_ret
      exact ⟨⟨_, rfl, hR.out⟩, hP.out, hOr⟩
theorem out_none {w w' : World} (h : Out (fun _ => False) w w') : Below w.heap.size w w' := h.to_below (fun _ _ _ h => h) (Nat.le_refl _)
theorem map_getD {l : List Int} (g : Int → Int) {k : Nat} (hk : k < l.length) : (l.map g).getD k 0 = g (l.getD k 0) := by simp [hk]
set_option maxRecDepth 100000 in
set_option maxHeartbeats 2000000 in
theorem rowNeg_c (v : Value) (l : List Int) (w : World) (hv : PRow 0 w v l) (hl : l.length ≤ 1099511627775) :
    Calls Tryd.prog 62 #[v] w fun e w' => (∃ u, e = .returned u ∧ RowO IsInt 31 w.heap.size w' u (l.map fun x => -x)) ∧ Below w.heap.size w w' := by
  have ec := fun W (h : Below w.heap.size w W) => each_c v l 80 #[] #[] (fun j => -(l.getD j 0)) (fun _ _ => True) (fun _ => False) W (hv.keep lims_int h) hl (ens Tryd.func80 (by kernel_rfl) rfl) trivial (fun _ _ _ _ _ _ => trivial) (fun _ h => h.elim) (fun j W u hj _ hu => (neg_c u _ W hu).mono fun e w' ⟨h1, h2⟩ => ⟨h1, trivial, Kp.of_below _ h2, Out.of_below _ h2⟩)
  obtain ⟨va, vc, rfl, -⟩ := hv
  have hB := Below.refl w.heap.size w
  go_enter Tryd.func62, Tryd.ntmps62
  go_wp2_with fail
  refine (ec _ (by repeat (first | exact Below.refl _ _ | exact hB | refine Below.drew ?_ | refine below_drewN ?_ _ | refine bset ?_ (by simp <;> omega) _ | refine bal ?_ _))).mono ?_
  rintro e w1 ⟨⟨u, rfl, hu⟩, -, hO⟩
  have HU := Lib.hid (show RowO IsInt 31 w.heap.size w1 u (l.map fun x => -x) from hu.rowO (by simp) (fun k hk => by rw [map_getD _ hk]))
  have hB1 := out_none hO
  obtain ⟨ua, uc, rfl⟩ := hu.ex
  clear ec hu hO
  go_wp2
  go_ret
  exact ⟨⟨_, rfl, HU.out⟩, hB1⟩
end Go.Proofs.YtdllbdfchloijaaDoor

/- row: Scale. -/
namespace Go.Proofs.YtdllbdfchloijaaDoor
open Num
open Go.ChangeShapes Go.WideShapes Go.ChangeAt Go.RowKit
set_option linter.unusedVariables false
set_option linter.unusedSimpArgs false
attribute [local go_sem ↓] Go.wp_at_zero Go.wp_at_succ
set_option maxRecDepth 100000 in
set_option maxHeartbeats 2000000 in
theorem rowScale_c (v vc : Value) (l : List Int) (c : Int) (k m : Nat) (w : World) (hv : PRow 0 w v l) (hc : IsInt w vc c) (hl : l.length ≤ 1099511627775) (hb : ∀ j, Bd k (l.getD j 0)) (bc : Bd m c) (hk : k ≤ 17179869184) (hm : m ≤ 17179869184) :
    Calls Tryd.prog 67 #[v, vc] w fun e w' => (∃ u, e = .returned u ∧ RowO IsInt 31 w.heap.size w' u (l.map fun x => x * c)) ∧ Below w.heap.size w w' := by
  have ec := fun W (h : Below w.heap.size w W) => each_c v l 10 #[vc] #[] (fun j => c * l.getD j 0) (fun _ W' => IsInt W' vc c) (fun _ => False) W (hv.keep lims_int h) hl (ens Tryd.func10 (by kernel_rfl) rfl) (hc.keep h) (fun _ _ _ hi hkp _ => hi.lim (hkp.lim (by decide))) (fun _ h => h.elim) (fun j W u hj hi hu => (mul_c vc u c _ m k W hi hu bc (hb j) hm hk).mono fun e w' ⟨h1, h2⟩ => ⟨h1, hi.keep h2, Kp.of_below _ h2, Out.of_below _ h2⟩)
  obtain ⟨va, vcp, rfl, -⟩ := hv
  obtain ⟨n1, a1, c1, l1, rfl, -⟩ := hc
  unfold iv at *
  have hB := Below.refl w.heap.size w
  go_enter Tryd.func67, Tryd.ntmps67
  go_wp2_with fail
  refine (ec _ (by repeat (first | exact Below.refl _ _ | exact hB | refine Below.drew ?_ | refine below_drewN ?_ _ | refine bset ?_ (by simp <;> omega) _ | refine bal ?_ _))).mono ?_
  rintro e w1 ⟨⟨u, rfl, hu⟩, -, hO⟩
  have hB1 : Below w.heap.size w w1 := bthen (by repeat (first | exact Below.refl _ _ | exact hB | refine Below.drew ?_ | refine below_drewN ?_ _ | refine bset ?_ (by simp <;> omega) _ | refine bal ?_ _)) (out_none hO)
  have HU := Lib.hid (show RowO IsInt 31 w.heap.size w1 u (l.map fun x => x * c) from (hu.rowO (l := l.map fun x => x * c) (by simp) (fun k hk => by rw [map_getD (fun x => x * c) hk, Int.mul_comm])).rebase (by simp))
  obtain ⟨ua, uc, rfl⟩ := hu.ex
  clear ec hu hO
  go_wp2
  go_ret
  exact ⟨⟨_, rfl, HU.out⟩, hB1⟩
end Go.Proofs.YtdllbdfchloijaaDoor

/- exact: run on numbers, told to a loop's body. -/
namespace Go.Proofs.YtdllbdfchloijaaDoor
open Num
open Go.ChangeShapes Go.WideShapes Go.ChangeAt Go.RowKit
set_option linter.unusedVariables false
set_option linter.unusedSimpArgs false
attribute [local go_sem ↓] Go.wp_at_zero Go.wp_at_succ
/-- how many instructions are told -/
structure ToldM (code : List Ins) (r : List Int) (m : Nat) : Prop where
  le : m ≤ code.length
  has : ∃ s, afterN code r m = some s
  stop : m < code.length → afterN code r (m + 1) = none
theorem ToldM.lt {code : List Ins} {r : List Int} {m n : Nat} (h : ToldM code r m) (hn : n < code.length) {s : List Int} (e : afterN code r (n + 1) = some s) (hm : n ≤ m) : n < m := by
  rcases Nat.lt_or_ge n m with h1 | h1
  · exact h1
  · obtain rfl : n = m := by omega
    rw [h.stop hn] at e; cases e
theorem ToldM.eq {code : List Ins} {r : List Int} {m n : Nat} (h : ToldM code r m) (e : afterN code r (n + 1) = none) (hm : n ≤ m) : n = m := by
  rcases Nat.lt_or_ge n m with h1 | h1
  · obtain ⟨s, hs⟩ := h.has
    rw [afterN_mono e (show n + 1 ≤ m by omega)] at hs; cases hs
  · omega
theorem typ_cells {w : World} {q : Nat} {t : TypeId} (h : typOf w q = some t) : ∃ o : Obj, w.heap[q]? = some o ∧ o.isCells = true := by
  unfold typOf at h
  cases e : w.heap[q]? with
  | none => rw [e] at h; cases h
  | some o =>
    rw [e] at h
    cases o with
    | cells c t' f => exact ⟨_, rfl, rfl⟩
    | _ => cases h
theorem typ_outK {X : Nat → Prop} {a b : World} {g : Nat} {t : TypeId} (h : typOf a g = some t) (ho : Out X a b) (hx : ¬ X g) : typOf b g = some t := by
  rw [typ_of_block (w := a) (ho.block g (typ_lt h) hx)]; exact h
end Go.Proofs.YtdllbdfchloijaaDoor

/- vm's laws: are blocks of the program those of the reference? -/
namespace Go.Proofs.YtdllbdfchloijaaDoor
open Num
open Go.ChangeShapes Go.WideShapes Go.ChangeAt Go.RowKit
set_option linter.unusedVariables false
set_option linter.unusedSimpArgs false
attribute [local go_sem ↓] Go.wp_at_zero Go.wp_at_succ
end Go.Proofs.YtdllbdfchloijaaDoor

/- vm's laws: works. -/
namespace Go.Proofs.YtdllbdfchloijaaDoor
open Num
open Go.ChangeShapes Go.WideShapes Go.ChangeAt Go.RowKit
set_option linter.unusedVariables false
set_option linter.unusedSimpArgs false
end Go.Proofs.YtdllbdfchloijaaDoor

