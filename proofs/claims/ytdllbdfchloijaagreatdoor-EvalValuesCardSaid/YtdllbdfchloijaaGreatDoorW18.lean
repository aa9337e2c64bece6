/- Texts of this seat, laid together: TxtJ, EwC, EvH, RwD, Rnh, VwC, VwF, VwG. Each opens with its own remark, which says what it proves, and under which conditions. -/
import Derived.Test.YtdllbdfchloijaaGreatDoorW17
import Derived.Test.YtdllbdfchloijaaGreatDoorW05
import Derived.Maps.AppendAt
import Derived.Test.YtdllbdfchloijaaGreatDoorW14
import Derived.Test.YtdllbdfchloijaaGreatDoorW15
import Derived.Test.YtdllbdfchloijaaGreatDoorW07
import Derived.Deep.RegionLaw
import Derived.Test.YtdllbdfchloijaaGreatDoorW16
import Derived.Deep.DrawnRows
import Derived.Test.YtdllbdfchloijaaGreatDoorW13
set_option linter.unusedVariables false
set_option linter.unusedSimpArgs false
/- integer: Text. -/
namespace Go.Proofs.YtdllbdfchloijaaGreatDoor
open Num
open Go.ChangeShapes Go.WideShapes Go.ChangeAt Go.RowKit
set_option linter.unusedVariables false
set_option linter.unusedSimpArgs false
attribute [local go_sem] Oper.semAt_some

/-- the text so far: a variable in memory (block c), its bytes from block base on -/
structure OutS (c base : Nat) (av : Option Addr) (cap : Nat) (L : List UInt8) (W : World) : Prop where
  cell : W.cell? ⟨c, 0, none⟩ = some (.slice av L.length cap)
  free : W.frozen? ⟨c, 0, none⟩ = false
  own : W.ownsRow base 5 1 (.slice av L.length cap) L.length (Lib.byteCells L)
  lt : c < base
theorem own_soft {B base : Nat} {W W' : World} {v : Value} {n : Nat} {xs : List Value} (h : W.ownsRow base 5 1 v n xs) (s : Soft B W W') : W'.ownsRow base 5 1 v n xs := by
  refine ⟨h.1, ?_⟩
  rcases h.2 with hn | ⟨g, cap, cur, rfl, hb, hgg, rest⟩
  · exact .inl hn
  · exact .inr ⟨g, cap, cur, rfl, hb, s.cells _ _ hgg rfl, rest⟩
theorem own_put {base : Nat} {W : World} {v : Value} {n : Nat} {xs : List Value} (h : W.ownsRow base 5 1 v n xs) (p : Addr) (x : Value) (hp : p.block < base) : (W.setCell p x).ownsRow base 5 1 v n xs := by
  refine ⟨h.1, ?_⟩
  rcases h.2 with hn | ⟨g, cap, cur, rfl, hb, hgg, rest⟩
  · exact .inl hn
  · exact .inr ⟨g, cap, cur, rfl, hb, (Below.heap_setCell _ _ _ _ (by omega)).trans hgg, rest⟩
theorem own_shape {base : Nat} {W : World} {v : Value} {L : List UInt8} (h : W.ownsRow base 5 1 v L.length (Lib.byteCells L)) : ∃ a c, v = .slice a L.length c := by
  rcases h.2 with ⟨rfl, h1⟩ | ⟨g, cap, cur, rfl, _⟩
  · exact ⟨none, 0, by rw [h1]⟩
  · exact ⟨_, _, rfl⟩
theorem OutS.soft {c base B : Nat} {av : Option Addr} {cap : Nat} {L : List UInt8} {W W' : World} (h : OutS c base av cap L W) (s : Soft B W W') : OutS c base av cap L W' :=
  ⟨s.cell h.cell, s.frozen h.cell h.free, own_soft h.own s, h.lt⟩
theorem OutS.keep {c base : Nat} {av : Option Addr} {cap : Nat} {L : List UInt8} {W W' : World} (h : OutS c base av cap L W) (hb : Below W.heap.size W W') : OutS c base av cap L W' :=
  ⟨bkeep hb h.cell, bkeepf hb h.cell h.free, own_below (w0 := W) h.own hb, h.lt⟩
/-- what the append and the store behind it leave -/
theorem OutS.next {c base : Nat} {av : Option Addr} {cap : Nat} {L X : List UInt8} {W w' : World} {v' : Value} (h : OutS c base av cap L W) (o : Obj)
    (hown : w'.ownsRow base 5 1 v' (L ++ X).length (Lib.byteCells (L ++ X))) (hg : (W.alloc o).grownBy w' (Value.slice av L.length cap).ownBlock) :
    ∃ av' cap', v' = .slice av' (L ++ X).length cap' ∧ OutS c base av' cap' (L ++ X) (w'.setCell ⟨c, 0, none⟩ v') ∧ KeepsOthers W (w'.setCell ⟨c, 0, none⟩ v') ∧ w'.cell? ⟨c, 0, none⟩ = some (.slice av L.length cap) ∧ w'.frozen? ⟨c, 0, none⟩ = false := by
  obtain ⟨av', cap', rfl⟩ := own_shape hown
  have hne : some c ≠ (Value.slice av L.length cap).ownBlock := fun e => by
    have := (h.own.lt c e.symm).1
    have := h.lt
    omega
  have c0 : w'.cell? ⟨c, 0, none⟩ = some (.slice av L.length cap) := hg.cell (cell_alloc h.cell o) hne
  have cf : w'.frozen? ⟨c, 0, none⟩ = false := by
    rw [World.frozen?_of_block (hg.block c (by have := cell_lt h.cell; simp; omega) hne)]
    exact bkeepf (bal (Below.refl _ _) _) h.cell h.free
  refine ⟨av', cap', rfl, ⟨cell_here c0 _, by rw [World.frozen?_setCell]; exact cf, own_put hown _ _ h.lt, h.lt⟩, ?_, c0, cf⟩
  refine ((KeepsOthers.alloc W o).trans (KeepsOthers.of_grownBy hg ?_)).trans (KeepsOthers.setCell _ _ _)
  intro j o' hj ho'
  rcases (h.own.alloc o).2 with ⟨h0, _⟩ | ⟨g, cap2, cur, h0, hb, hgg, rest⟩
  · rw [h0] at hj; simp [Value.ownBlock] at hj
  · rw [h0] at hj; simp [Value.ownBlock] at hj
    subst hj
    rw [hgg] at ho'; cases ho'; rfl
theorem OutS.str {c base : Nat} {av : Option Addr} {cap : Nat} {L : List UInt8} {W : World} (h : OutS c base av cap L W) : (convert 100 9 (.slice av L.length cap)).run Tryz.prog W = .ok (.string ⟨L.toArray⟩) W := by
  rcases h.own.2 with ⟨h1, h2⟩ | ⟨g, cap2, cur, h1, hb, hgg, rest⟩
  · obtain rfl : L = [] := List.length_eq_zero_iff.1 h2
    cases h1
    exact run_convert_bytes_nil W 100 5 Tryz.underlying100 Tryz.underlying5 0 0 9 Tryz.underlying9
  · cases h1
    have ho := h.own
    refine run_convert_bytes_back W 100 9 5 ⟨g, 0, none⟩ cap L Tryz.underlying100 Tryz.underlying5 Tryz.underlying9 fun j hj => ?_
    have := World.ownsRow.cellAt ho j (by omega)
    rw [bcells_get L j hj] at this
    unfold Addr.add
    split
    · subst_vars; simpa [hj] using this
    · simpa [hj] using this
theorem dig_map (L : List Nat) (h : ∀ d ∈ L, d < 10) : L.map (fun x => dig (x % 10)) = L.map dig := List.map_congr_left fun x hx => by rw [Nat.mod_eq_of_lt (h x hx)]
theorem digL_len {l : List Nat} (hl : Limbs l) (h1 : l.length ≤ 67108865) : (digL (val l)).length ≤ 2147483680 := by
  have h2 := val_lt hl
  rw [BB_pow] at h2
  have h3 := lowD_len _ _ h2
  unfold digL
  split
  · simp
  · rw [List.length_reverse]; omega
/-- a number's text: its sign, its digits -/
theorem intTxt_eq (n : Bool) (V : Nat) (hn : n = true → 0 < V) : intTxt (sg n V) = (if n then [45] else []) ++ (digL V).map (fun x => dig (x % 10)) := by
  have hd := digL_txt V
  have e : natTxt V = (digL V).map dig := hd.1
  rw [dig_map _ hd.2, ← e]
  unfold intTxt
  rw [sg_abs]
  cases n with
  | true => rw [if_pos (by have := hn rfl; simp [sg]; omega)]; rfl
  | false => rw [if_neg (by simp [sg])]; rfl


set_option maxRecDepth 100000 in
set_option maxHeartbeats 8000000 in
theorem intText_c (vx : Value) (x : Int) (k : Nat) (w : World) (hx : IsInt w vx x) (bx : Bd k x) (hk : k ≤ 2147483648) :
    Calls Tryz.prog 18 #[vx] w fun e w' => e = .returned (.string ⟨(intTxt x).toArray⟩) ∧ Below w.heap.size w w' := by
  obtain ⟨n1, a1, c1, l1, rfl, u1, g1, s1, rfl⟩ := hx
  have k1 : l1.length ≤ 67108865 := by
    by_cases h0 : l1 = []
    · subst h0; simp
    · have h1 := nrm_val_pos g1 h0
      rw [BB_pow] at h1
      have h2 : 32 * (l1.length - 1) < k := (Nat.pow_lt_pow_iff_right (a := 2) (by omega)).1 (Nat.lt_of_le_of_lt h1 (sg_bd bx))
      omega
  have HE := Lib.hid (intTxt_eq n1 (val l1) (fun h => by
    have h1 := nrm_val_pos g1 (s1 h)
    have : 0 < BB ^ (l1.length - 1) := Nat.pow_pos BB_pos
    omega))
  have HDL := Lib.hid (digL_len u1.2.2.1 k1)
  have HDT := Lib.hid (digL_txt (val l1))
  clear bx s1
  unfold iv
  obtain ⟨i0, z0, hi0, hz0, hsize0, hby0, hzs0⟩ := el8.info
  refine calls_of_wp_marks Tryz.func18 rfl ?_
  simp only [Tryz.ntmps18, List.size_toArray, List.length_cons, List.length_nil, Nat.reduceAdd, Nat.reduceSub, Array.replicate_succ, Array.replicate_zero, List.push_toArray, List.append_toArray, List.nil_append, List.cons_append, Array.append_empty, Array.empty_append]
  cases n1 with
  | false =>
    go_wp2_with fail
    refine (limbDigits_c a1 c1 l1 _ (u1.keep (bal (bal (Below.refl _ _) _) _)) k1).mono ?_
    rintro e wD ⟨B, rfl, hstr, hbD⟩
    have hO : OutS (w.heap.size + 1) (w.heap.size + 2) none 0 [] wD := OutS.keep ⟨cell_new (by simp) rfl, by rw [World.frozen?_alloc_at (hn := by simp)], World.ownsRow_nil _ _ _ _, by omega⟩ hbD
    have hBD : Below w.heap.size w wD := bthen (bal (bal (Below.refl _ _) _) _) hbD
    have HE := Lib.hid (show intTxt (sg false (val l1)) = ([] : List UInt8) ++ (digL (val l1)).map (fun x => dig (x % 10)) from HE.out)
    have hszD := hbD.size
    have hsD : w.heap.size + 2 ≤ wD.heap.size := by have := cell_lt hO.cell; omega
    go_wp2
    refine wp_rangeK (gf := 88) (lb := #[.pointer (some ⟨B, 0, none⟩)]) (w0 := wD) (L := digL (val l1)) (N := (digL (val l1)).length) (Kp := KeepsWalks) (by simp [Act.eval]) (enters_of Tryz.func88 (by kernel_rfl) rfl)
      (encs := fun x : Nat => #[.int .i64 ((x % 10 : Nat) : Int)]) (digits_stops B _ 8 _ _ wD HDT.out hstr (Nat.le_refl _)) (fun h k => walksK_t h k) (fun W l o o' h1 h2 h3 h4 => walksK_b W l o o' h1 h2 h3 h4) (Below.refl _ _) (fun _ => rfl)
      (fun pre W => (∃ av cap, OutS (w.heap.size + 1) (w.heap.size + 2) av cap (([] : List UInt8) ++ pre.map (fun x => dig (x % 10))) W) ∧ Below w.heap.size w W ∧ wD.heap.size ≤ W.heap.size)
      (fun c pre W => False)
      ?_ ?_ ?_ ?_ ?_
      (fun T x a' W => a' = { tmps := (T.setIfInBounds 13 (.int .i64 ((x % 10 : Nat) : Int))).setIfInBounds 4 (.int .i64 ((x % 10 : Nat) : Int)), defers := [] } ∧ wD.heap.size ≤ W.heap.size)
      ?_ ?_ ?assign0 ?body0 ?done0 ?stop0
    case assign0 =>
      rintro l pre x W K hi hK
      generalize x % 10 = d at *
      gi_wp2
      exact hK _ _ (KeepsFrom.refl _ _) (KeepsWalks.refl _) hi ⟨by simp, hi.2.2⟩
    case body0 =>
      rintro l pre x a' w6 ⟨⟨av6, cap6, hO6⟩, hB6, hs6⟩ ⟨rfl, _⟩ hl
      have hlm : (([] : List UInt8) ++ pre.map (fun x => dig (x % 10))).length ≤ 2147483690 := by
        have := HDL.out
        simp
        omega
      have HLN := Lib.hid (show ([] : List UInt8) ++ (pre ++ [x]).map (fun x => dig (x % 10)) = (([] : List UInt8) ++ pre.map (fun x => dig (x % 10))) ++ [dig (x % 10)] by simp)
      have hd10 : x % 10 < 10 := Nat.mod_lt _ (by omega)
      generalize ([] : List UInt8) ++ pre.map (fun x => dig (x % 10)) = Lp at *
      obtain ⟨bb, hbb⟩ : ∃ bb, bb = dig (x % 10) := ⟨_, rfl⟩
      rw [← hbb] at HLN
      have hb1 : (48 : Int) + ((x % 10 : Nat) : Int) = (bb.toNat : Int) := by rw [hbb, dig_nat hd10]; omega
      have hb2 : (bb.toNat : Int) % 256 = (bb.toNat : Int) := by have := bb.toNat_lt; omega
      clear hbb
      generalize x % 10 = d at *
      have c0 := hO6.cell
      have cf := hO6.free
      have hsz6 := cell_lt c0
      simp only [List.setIfInBounds_toArray, List.set_cons_succ, List.set_cons_zero]
      gi_wp2_with (gi_at_builtin; refine wpListIn_append_own _ rfl _ _ 100 rfl (w.heap.size + 2) 5 i0 z0 1 1 el8.ht hi0 hz0 hsize0 hby0 hzs0 el8.pos (.slice av6 Lp.length cap6) Lp.length (Lib.byteCells Lp) rfl (hO6.own.alloc _) ⟨w6.heap.size, 0, none⟩ 1 1 [.int .u8 (bb.toNat : Int)] rfl rfl (cell_one_new _ _ _) ?_ ?_ ?_ ?_ ?_; (simp [Value.oneCell']); (unfold maxLen; omega); omega; (simp; omega); intro v' w7 hown hg _; obtain ⟨av7, cap7, rfl, hO7, hKO, c7, f7⟩ := OutS.next hO6 (X := [bb]) _ (by rw [bcells_app, List.length_append]; exact hown) hg)
      have hB7 : Below w.heap.size w w7 := (bal hB6 _).grown hg (by simp; omega) (fun k e => by have := (hO6.own.lt k e).1; omega)
      have e7 : (Lp ++ [bb]).length = Lp.length + 1 := by simp
      rw [e7] at hO7 hKO
      have hs7 := hg.size
      simp at hs7
      refine ⟨hKO.from _, hKO.walks, ⟨_, _, by rw [HLN.out]; exact hO7⟩, bset hB7 (by simp) _, by simp; omega⟩
    case done0 =>
      rintro D w8 hDs ⟨⟨av8, cap8, hO8⟩, hB8, hs8⟩ hK0
      rw [← HE.out] at hO8
      have c0 := hO8.cell
      have hst := hO8.str
      go_wp2
      refine ⟨by simp, .inl ⟨_, _, rfl, run_takeDeferred (b := D) (ds := []) hK0, ?_⟩⟩
      refine ⟨.string ⟨(intTxt (sg false (val l1))).toArray⟩, ?_, rfl, b_put hB8 (by omega) _⟩
      simp [results, Tryz.results18, go_sem]
    case stop0 => intro D c pre W _ _ h; cases h
    · rintro pre W W' ⟨⟨av, cap, h⟩, h2, h3⟩ s; exact ⟨⟨av, cap, h.soft s⟩, h2.trans (s.below.mono (by omega)), Nat.le_trans h3 s.below.size⟩
    · exact fun c pre W W' h s => h
    · exact fun pre W h => h.2.2
    · exact fun c pre W h => h.elim
    · exact ⟨⟨_, _, by simpa using hO⟩, hBD, Nat.le_refl _⟩
    · rintro x a' W W' ⟨rfl, h⟩ s; exact ⟨rfl, Nat.le_trans h s.below.size⟩
    · rintro x a' W ⟨rfl, h⟩; exact h
  | true =>
    have hO0 : OutS (w.heap.size + 1) (w.heap.size + 2) none 0 [] ((w.alloc (.cells #[.bool true, .slice a1 l1.length c1] 50)).alloc (.cells #[.slice none 0 0] 100)) := ⟨cell_new (by simp) rfl, by rw [World.frozen?_alloc_at (hn := by simp)], World.ownsRow_nil _ _ _ _, by omega⟩
    have x00 : (((w.alloc (.cells #[.bool true, .slice a1 l1.length c1] 50)).alloc (.cells #[.slice none 0 0] 100)).alloc (.cells #[.int .u8 45] 5)).cell? ⟨w.heap.size, 1, none⟩ = some (.slice a1 l1.length c1) := cell_alloc (cell_alloc (cell_new rfl rfl) _) _
    have hnw : ∀ j u, [Value.int .u8 45][j]? = some u → (((w.alloc (.cells #[.bool true, .slice a1 l1.length c1] 50)).alloc (.cells #[.slice none 0 0] 100)).alloc (.cells #[.int .u8 45] 5)).cell? ((⟨w.heap.size + 1 + 1, 0, none⟩ : Addr).add j) = some u := fun j u hj => by
      have h := cell_one_new ((w.alloc (.cells #[.bool true, .slice a1 l1.length c1] 50)).alloc (.cells #[.slice none 0 0] 100)) (.int .u8 45) 5 j u hj
      simpa using h
    go_wp2_with (at_builtin; go_loud (refine wpList_append_own _ rfl _ _ 100 rfl (w.heap.size + 2) 5 i0 z0 1 1 el8.ht hi0 hz0 hsize0 hby0 hzs0 el8.pos (.slice none 0 0) 0 [] rfl (World.ownsRow_nil _ _ _ _) ⟨w.heap.size + 1 + 1, 0, none⟩ 1 1 [.int .u8 45] rfl rfl hnw ?_ ?_ ?_ ?_ ?_; (simp [Value.oneCell']); (unfold maxLen; omega); omega; (simp); intro v' w7 hown hg _; obtain ⟨av7, cap7, rfl, hO7, hKO, c7, f7⟩ := OutS.next hO0 (X := [45]) _ hown hg; have x1 := hg.cell x00 (by simp [Value.ownBlock])))
    have hB7 : Below w.heap.size w w7 := (bal (bal (bal (Below.refl _ _) _) _) _).grown hg (by simp; omega) (fun k e => by simp [Value.ownBlock] at e)
    have hs7 := hg.size
    simp at hs7
    refine (limbDigits_c a1 c1 l1 _ (u1.keep (bset hB7 (by simp) _)) k1).mono ?_
    rintro e wD ⟨B, rfl, hstr, hbD⟩
    have hO := hO7.keep hbD
    have hBD : Below w.heap.size w wD := bthen (bset hB7 (by simp) _) hbD
    have HE := Lib.hid (show intTxt (sg true (val l1)) = ([45] : List UInt8) ++ (digL (val l1)).map (fun x => dig (x % 10)) from HE.out)
    have hszD := hbD.size
    have hsD : w.heap.size + 2 ≤ wD.heap.size := by have := cell_lt hO.cell; omega
    go_wp2
    refine wp_rangeK (gf := 88) (lb := #[.pointer (some ⟨B, 0, none⟩)]) (w0 := wD) (L := digL (val l1)) (N := (digL (val l1)).length) (Kp := KeepsWalks) (by simp [Act.eval]) (enters_of Tryz.func88 (by kernel_rfl) rfl)
      (encs := fun x : Nat => #[.int .i64 ((x % 10 : Nat) : Int)]) (digits_stops B _ 8 _ _ wD HDT.out hstr (Nat.le_refl _)) (fun h k => walksK_t h k) (fun W l o o' h1 h2 h3 h4 => walksK_b W l o o' h1 h2 h3 h4) (Below.refl _ _) (fun _ => rfl)
      (fun pre W => (∃ av cap, OutS (w.heap.size + 1) (w.heap.size + 2) av cap (([45] : List UInt8) ++ pre.map (fun x => dig (x % 10))) W) ∧ Below w.heap.size w W ∧ wD.heap.size ≤ W.heap.size)
      (fun c pre W => False)
      ?_ ?_ ?_ ?_ ?_
      (fun T x a' W => a' = { tmps := (T.setIfInBounds 13 (.int .i64 ((x % 10 : Nat) : Int))).setIfInBounds 4 (.int .i64 ((x % 10 : Nat) : Int)), defers := [] } ∧ wD.heap.size ≤ W.heap.size)
      ?_ ?_ ?assign0 ?body0 ?done0 ?stop0
    case assign0 =>
      rintro l pre x W K hi hK
      generalize x % 10 = d at *
      gi_wp2
      exact hK _ _ (KeepsFrom.refl _ _) (KeepsWalks.refl _) hi ⟨by simp, hi.2.2⟩
    case body0 =>
      rintro l pre x a' w6 ⟨⟨av6, cap6, hO6⟩, hB6, hs6⟩ ⟨rfl, _⟩ hl
      have hlm : (([45] : List UInt8) ++ pre.map (fun x => dig (x % 10))).length ≤ 2147483690 := by
        have := HDL.out
        simp
        omega
      have HLN := Lib.hid (show ([45] : List UInt8) ++ (pre ++ [x]).map (fun x => dig (x % 10)) = (([45] : List UInt8) ++ pre.map (fun x => dig (x % 10))) ++ [dig (x % 10)] by simp)
      have hd10 : x % 10 < 10 := Nat.mod_lt _ (by omega)
      generalize ([45] : List UInt8) ++ pre.map (fun x => dig (x % 10)) = Lp at *
      obtain ⟨bb, hbb⟩ : ∃ bb, bb = dig (x % 10) := ⟨_, rfl⟩
      rw [← hbb] at HLN
      have hb1 : (48 : Int) + ((x % 10 : Nat) : Int) = (bb.toNat : Int) := by rw [hbb, dig_nat hd10]; omega
      have hb2 : (bb.toNat : Int) % 256 = (bb.toNat : Int) := by have := bb.toNat_lt; omega
      clear hbb
      generalize x % 10 = d at *
      have c0 := hO6.cell
      have cf := hO6.free
      have hsz6 := cell_lt c0
      simp only [List.setIfInBounds_toArray, List.set_cons_succ, List.set_cons_zero]
      gi_wp2_with (gi_at_builtin; refine wpListIn_append_own _ rfl _ _ 100 rfl (w.heap.size + 2) 5 i0 z0 1 1 el8.ht hi0 hz0 hsize0 hby0 hzs0 el8.pos (.slice av6 Lp.length cap6) Lp.length (Lib.byteCells Lp) rfl (hO6.own.alloc _) ⟨w6.heap.size, 0, none⟩ 1 1 [.int .u8 (bb.toNat : Int)] rfl rfl (cell_one_new _ _ _) ?_ ?_ ?_ ?_ ?_; (simp [Value.oneCell']); (unfold maxLen; omega); omega; (simp; omega); intro v' w7 hown hg _; obtain ⟨av7, cap7, rfl, hO7, hKO, c7, f7⟩ := OutS.next hO6 (X := [bb]) _ (by rw [bcells_app, List.length_append]; exact hown) hg)
      have hB7 : Below w.heap.size w w7 := (bal hB6 _).grown hg (by simp; omega) (fun k e => by have := (hO6.own.lt k e).1; omega)
      have e7 : (Lp ++ [bb]).length = Lp.length + 1 := by simp
      rw [e7] at hO7 hKO
      have hs7 := hg.size
      simp at hs7
      refine ⟨hKO.from _, hKO.walks, ⟨_, _, by rw [HLN.out]; exact hO7⟩, bset hB7 (by simp) _, by simp; omega⟩
    case done0 =>
      rintro D w8 hDs ⟨⟨av8, cap8, hO8⟩, hB8, hs8⟩ hK0
      rw [← HE.out] at hO8
      have c0 := hO8.cell
      have hst := hO8.str
      go_wp2
      refine ⟨by simp, .inl ⟨_, _, rfl, run_takeDeferred (b := D) (ds := []) hK0, ?_⟩⟩
      refine ⟨.string ⟨(intTxt (sg true (val l1))).toArray⟩, ?_, rfl, b_put hB8 (by omega) _⟩
      simp [results, Tryz.results18, go_sem]
    case stop0 => intro D c pre W _ _ h; cases h
    · rintro pre W W' ⟨⟨av, cap, h⟩, h2, h3⟩ s; exact ⟨⟨av, cap, h.soft s⟩, h2.trans (s.below.mono (by omega)), Nat.le_trans h3 s.below.size⟩
    · exact fun c pre W W' h s => h
    · exact fun pre W h => h.2.2
    · exact fun c pre W h => h.elim
    · exact ⟨⟨_, _, by simpa using hO⟩, hBD, Nat.le_refl _⟩
    · rintro x a' W W' ⟨rfl, h⟩ s; exact ⟨rfl, Nat.le_trans h s.below.size⟩
    · rintro x a' W ⟨rfl, h⟩; exact h
end Go.Proofs.YtdllbdfchloijaaGreatDoor

/- exact's laws: row.Of, row.Text at one number; live. -/
namespace Go.Proofs.YtdllbdfchloijaaGreatDoor
open Num
open Go.ChangeShapes Go.WideShapes Go.ChangeAt Go.RowKit
set_option linter.unusedVariables false
set_option linter.unusedSimpArgs false
attribute [local go_sem ↓] Go.wp_at_zero Go.wp_at_succ
end Go.Proofs.YtdllbdfchloijaaGreatDoor

/- eval's laws: points, list. -/
namespace Go.Proofs.YtdllbdfchloijaaGreatDoor
open Pt
open Num
open Go.ChangeShapes Go.WideShapes Go.ChangeAt Go.RowKit
set_option linter.unusedVariables false
set_option linter.unusedSimpArgs false
attribute [local go_sem ↓] Go.wp_at_zero Go.wp_at_succ
set_option maxRecDepth 100000 in
set_option maxHeartbeats 4000000 in
theorem points11_c (b off c N m : Nat) (L : List Int) (w : World) (hN : N = 2 * m) (hm : m ≤ 1000) (hc : ∀ k, k < N → w.cell? ⟨b, off + k, none⟩ = some (.int .i64 (L.getD k 0))) :
    Calls Tryz.prog 34 #[.slice (some ⟨b, off, none⟩) N c] w fun e w' => (∃ a' c', e = .returned (.slice a' m c') ∧ PtsV w' a' m c' (evF L)) ∧ Below w.heap.size w w' := by
  have HC := Lib.hid hc
  have HN := Lib.hid hN
  clear hc hN
  have hB := Below.refl w.heap.size w
  go_enter Tryz.func34, Tryz.ntmps34
  go_wp2
  go_loopw [3, 4] (fun v x wr => ∃ k i : Nat, Hid (k ≤ m ∧ i = 2 * k) ∧ x = .int .i64 i ∧ Hid (OwnE 33 2 w wr v k (pcells (upL (evF L) k)))) (fun _ x _ => N + 1 - (intOf x).toNat)
  case atStart => exact ⟨0, 0, Lib.hid ⟨Nat.zero_le _, rfl⟩, rfl, Lib.hid (OwnE.nil _ _ (by repeat (first | exact Below.refl _ _ | exact hB | refine Below.drew ?_ | refine below_drewN ?_ _ | refine bset ?_ (by simp <;> omega) _ | refine bal ?_ _)))⟩
  case round =>
    obtain ⟨k, i, hki, rfl, hO⟩ := hrel
    have hBr := hO.out.2
    obtain ⟨va, vc, rfl⟩ := hO.out.ex
    have hw : wrap64 ((i : Int) + 1) = (i : Int) + 1 := by have := hki.out; unfold wrap64; omega
    by_cases hlt : k < m
    · have hiN : i + 1 < N := by have := hki.out; have := HN.out; omega
      have hI : (i : Int) + 1 < (N : Int) := by omega
      have d0 := bkeep hBr (HC.out i (by omega))
      have d1 := bkeep hBr (HC.out (i + 1) hiN)
      have zd := cell_lt d0
      have HE := Lib.hid (show evF L k = (L.getD i 0, L.getD (i + 1) 0) by unfold evF; rw [hki.out.2])
      obtain ⟨x, hx⟩ : ∃ x, L.getD i 0 = x := ⟨_, rfl⟩
      obtain ⟨y, hy⟩ : ∃ y, L.getD (i + 1) 0 = y := ⟨_, rfl⟩
      rw [hx] at d0 HE
      rw [hy] at d1 HE
      have hKI := Lib.hid (show k + 1 ≤ m ∧ i + 2 = 2 * (k + 1) ∧ i < N by have := hki.out; omega)
      have hk9 : k + 1 ≤ 1099511627776 := by omega
      have HS := Lib.hid (show ∀ V, Below w.heap.size w V → V.cell? ⟨b, off + i, none⟩ = some (.int .i64 x) ∧ V.cell? ⟨b, off + (i + 1), none⟩ = some (.int .i64 y) from fun V q => ⟨by rw [← hx]; exact bkeep q (HC.out i (by omega)), by rw [← hy]; exact bkeep q (HC.out (i + 1) hiN)⟩)
      have hBc := hBr
      have hI0 : (i : Int) < (N : Int) := by omega
      have hI6 : i < N := by omega
      have hI7 : (0 : Int) ≤ (i : Int) + 1 := by omega
      have hw2 : IntKind.i64.wrap ((i : Int) + 1) = (i : Int) + 1 := (IntWalk.i64_left _).trans hw
      have hw3 : wrap64 ((i : Int) + 2) = (i : Int) + 2 := by have := hki.out; unfold wrap64; omega
      clear hx hy hlt
      go_wp2
      go_region_held3 (fun V => V.cell? ⟨b, off + i, none⟩ = some (.int .i64 x) ∧ V.cell? ⟨b, off + (i + 1), none⟩ = some (.int .i64 y))
        (first | (refine HS.out _ ?_; (repeat (first | exact Below.refl _ _ | exact hBc | refine Below.drew ?_ | refine below_drewN ?_ _ | refine bset ?_ (by simp <;> omega) _ | refine bal ?_ _)); done) | fail)
        (first
        | (refine step_lit elPt (by rfl) (by rfl) (hO.out.below (below_drewN (Below.refl _ _) _)) (by rfl) (by rfl) (m := 1) (C := [.int .i64 x, .int .i64 y]) rfl (pcells_one [(x, y)]) hk9 ?_; intro v' w8 hO8; have HO8 := Lib.hid (hO8.pts HE.out); (clear hBc; have hBc := hO8.2); clear hO8)
        | (refine step_lit elPt (by rfl) (by rfl) hO.out (by rfl) (by rfl) (m := 1) (C := [.int .i64 x, .int .i64 y]) rfl (pcells_one [(x, y)]) hk9 ?_; intro v' w8 hO8; have HO8 := Lib.hid (hO8.pts HE.out); (clear hBc; have hBc := hO8.2); clear hO8)
        | fail)
      all_goals
        go_wp2
        exact ⟨⟨k + 1, i + 2, Lib.hid ⟨hKI.out.1, hKI.out.2.1⟩, by go_num, HO8⟩, meas2 hKI.out.2.2 (by go_num) rfl⟩
    · obtain rfl : k = m := by have := hki.out; omega
      have hI : ¬ (i : Int) + 1 < (N : Int) := by have := hki.out; have := HN.out; omega
      clear hlt
      go_wp2
      go_ret
      obtain ⟨a', c', e, hc, hu, hfr, hfree⟩ := own_pts (n := k) (f := evF L) hO.out.1 rfl
      obtain ⟨rfl, -, rfl⟩ := Value.slice.inj e
      exact ⟨⟨_, _, rfl, hu⟩, hBr⟩
set_option maxRecDepth 100000 in
set_option maxHeartbeats 8000000 in
theorem list11_c (v : Value) (l : List Int) (w : World) (hr : RowI w v l) (hl : l.length ≤ 400) :
    Calls Tryz.prog 16 #[v] w fun e w' => (∃ va, e = .returned va ∧ RowO IsInt 50 w.heap.size w' va l) ∧ Below w.heap.size w w' := by
  obtain ⟨ra, rc, rfl, hr⟩ := hr
  have HR := Lib.hid hr
  clear hr
  have hB := Below.refl w.heap.size w
  go_enter Tryz.func16, Tryz.ntmps16
  go_wp2
  go_loopw [3, 8] (fun va x wr => ∃ j : Nat, j ≤ l.length ∧ x = .int .i64 j ∧ Hid (OwnF IsInt 50 w wr va j (fun i => l.getD i 0))) (fun _ x _ => l.length - (intOf x).toNat)
  case atStart => exact ⟨0, Nat.zero_le _, rfl, Lib.hid (OwnF.nil _ _ _ hB)⟩
  case round =>
    obtain ⟨j, hj, rfl, hF⟩ := hrel
    have hBr := hF.out.bel
    obtain ⟨fa, fc, hfv⟩ : ∃ a c, _ = Value.slice a j c := by obtain ⟨a, c, h, _⟩ := hF.out.view; exact ⟨a, c, h⟩
    subst hfv
    by_cases hlt : j < l.length
    · have hltI : (j : Int) < (l.length : Int) := by omega
      obtain ⟨rb, ro, rfl, hc, hI⟩ := HR.out j hlt
      have hc2 := bkeep hBr hc
      have zrb := cell_lt hc2
      have oc := fun W => of_c (l.getD j 0) W hI.1 hI.2
      have HSN := Lib.hid (snoc_fun l j hlt)
      obtain ⟨z, hz⟩ : ∃ z, l.getD j 0 = z := ⟨_, rfl⟩
      rw [hz] at hc2 oc HSN
      clear hc hI hz
      go_wp2_with fail
      refine (oc _).mono ?_
      rintro e w5 ⟨⟨v5, rfl, hi5⟩, hb5⟩
      have HF5 := Lib.hid (hF.out.below lims_int hb5)
      have HI5 := Lib.hid hi5
      obtain ⟨n5, a5, c5, l5, rfl, -⟩ := hi5
      unfold iv at *
      clear oc hc2
      go_wp2_with (at_builtin; refine app_num elInt (by decide) lims_int (by rfl) (by rfl) HF5.out HI5.out (by rfl) (by rfl) (by omega) ?_)
      intro v8 w8 hF8 _ _
      have HF8 := Lib.hid (hF8.congr' HSN.out)
      clear hF8
      go_wp2
      exact ⟨⟨j + 1, by omega, by go_num, HF8⟩, by simp [intOf]; omega⟩
    · obtain rfl : j = l.length := by omega
      go_wp2
      go_ret
      exact ⟨⟨_, rfl, hF.out.rowO⟩, hBr⟩
end Go.Proofs.YtdllbdfchloijaaGreatDoor

/- row: both, Add, Sub. -/
namespace Go.Proofs.YtdllbdfchloijaaGreatDoor
open Num
open Go.ChangeShapes Go.WideShapes Go.ChangeAt Go.RowKit
set_option linter.unusedVariables false
set_option linter.unusedSimpArgs false
attribute [local go_sem ↓] Go.wp_at_zero Go.wp_at_succ
theorem typ_fresh {w : World} {c : Array Value} {t : TypeId} {q : Nat} (h : q = w.heap.size) : typOf (w.alloc (.cells c t)) q = some t := by
  subst h; unfold typOf; rw [(MapKept.heap_alloc w _).1]
set_option maxRecDepth 100000 in
set_option maxHeartbeats 4000000 in
theorem bothF_c (u vb : Value) (lb : List Int) (x z : Int) (F : Nat) (bnd caps : Array Value) (j kb fb bb : Nat) (w : World) (hx : IsInt w u x) (hrow : PRow 0 w vb lb) (hj : j < lb.length) (hl : lb.length ≤ 1099511627775)
    (c0 : w.cell? ⟨kb, 0, none⟩ = some (.int .i64 ((j : Int) - 1))) (c0f : w.frozen? ⟨kb, 0, none⟩ = false) (c1 : w.cell? ⟨fb, 0, none⟩ = some (.func (.func F) bnd caps)) (c2 : w.cell? ⟨bb, 0, none⟩ = some vb) (hT : typOf w kb = some 3) (hkf : kb ≠ fb) (hkb : kb ≠ bb)
    (eF : Enters Tryz.prog F) (hF : ∀ W u1 u2, Out (fun k => k = kb) w W → IsInt W u1 x → IsInt W u2 (lb.getD j 0) → Calls Tryz.prog F (bnd ++ #[u1, u2] ++ caps) W fun e w' => (∃ v, e = .returned v ∧ IsInt w' v z) ∧ Below W.heap.size W w') :
    Calls Tryz.prog 143 #[u, .pointer (some ⟨kb, 0, none⟩), .pointer (some ⟨fb, 0, none⟩), .pointer (some ⟨bb, 0, none⟩)] w fun e w' => (∃ v, e = .returned v ∧ IsInt w' v z) ∧ w'.cell? ⟨kb, 0, none⟩ = some (.int .i64 (j : Int)) ∧ (w'.frozen? ⟨kb, 0, none⟩ = false ∧ typOf w' kb = some 3) ∧ Out (fun k => k = kb) w w' := by
  have HF := Lib.hid hF
  have HX := Lib.hid hx
  obtain ⟨a', c', rfl, -, vr⟩ := hrow.view
  obtain ⟨b, off, n2, a2, l2, c2', rfl, d0, d1, hi⟩ := vr j hj
  have HY := Lib.hid hi
  have zk := cell_lt c0
  have hbk : b ≠ kb := fun e => by
    obtain ⟨a1, c1', he, -, -, h4⟩ := hrow
    obtain ⟨rfl, -, -⟩ := Value.slice.inj he
    rcases h4 with h4 | ⟨b', off', h1, -, h3, -⟩
    · rw [h4] at hj; simp at hj
    · cases h1; subst e; rw [hT] at h3; exact absurd (Option.some.inj h3) (by decide)
  obtain ⟨n1, a1, c1', l1, rfl, -⟩ := hx
  unfold iv at *
  unfold Enters at eF
  have hjI : (j : Int) < (lb.length : Int) := by omega
  have hkf' := Ne.symm hkf
  have hkb' := Ne.symm hkb
  clear hF vr hi
  have HZ := Lib.hid (And.intro hrow hT)
  clear hrow hT
  have hB := Below.refl w.heap.size w
  go_enter Tryz.func143, Tryz.ntmps143
  go_wp2
  refine wp_name fun w0 hW0 => ?_
  have hO : Out (fun k => k = kb) w w0 := by rw [hW0]; repeat (first | exact Out.refl _ _ | refine Out.drew ?_ | refine Out.set ?_ (fun _ => show kb = kb from rfl) _ | refine Out.alloc ?_ _)
  have x0 : w0.cell? ⟨w.heap.size, 0, none⟩ = some (.bool n1) := by rw [hW0]; simp [go_sem, *]
  have x1 : w0.cell? ⟨w.heap.size, 1, none⟩ = some (.slice a1 l1.length c1') := by rw [hW0]; simp [go_sem, *]
  have r0 : w0.cell? ⟨w.heap.size + 1, 0, none⟩ = some (.bool false) := by rw [hW0]; simp [go_sem, *]
  have r1 : w0.cell? ⟨w.heap.size + 1, 1, none⟩ = some (.slice none 0 0) := by rw [hW0]; simp [go_sem, *]
  have r0f : w0.frozen? ⟨w.heap.size + 1, 0, none⟩ = false := by rw [hW0]; simp [go_sem, *]
  have r1f : w0.frozen? ⟨w.heap.size + 1, 1, none⟩ = false := by rw [hW0]; simp [go_sem, *]
  have k0 : w0.cell? ⟨kb, 0, none⟩ = some (.int .i64 (j : Int)) := by rw [hW0]; simp [go_sem, *]
  have k0f : w0.frozen? ⟨kb, 0, none⟩ = false := by rw [hW0]; simp [go_sem, *]
  have ht0 : Hid (typOf w0 kb = some 3) := Lib.hid (by rw [hW0]; repeat (first | exact HZ.out.2 | (with_reducible rw [typ_set]) | (refine typ_keep ?_ (bal (Below.refl _ _) _))))
  have zfb := cell_lt c1
  have zbb := cell_lt c2
  have zbl := cell_lt d0
  have q1 := okeep hO c1 hkf'
  have q2 := okeep hO c2 hkb'
  have e0 := okeep hO d0 hbk
  have e1 := okeep hO d1 hbk
  clear hW0 c0 c0f c1 c2 d0 d1
  have hs := hO.size
  have zr := cell_lt r0
  have zx := cell_lt x0
  have ze := cell_lt e0
  have zq1 := cell_lt q1
  have zq2 := cell_lt q2
  have zk0 := cell_lt k0
  have hLim : Lim w w0 := (Kp.out (S := (· ≠ 3)) hO (fun q t hq ht k => by subst hq; rw [HZ.out.2] at ht; exact k (Option.some.inj ht).symm)).lim (by decide)
  have fc := fun W (h : Below w0.heap.size w0 W) => HF.out W (.agg #[.bool n1, .slice a1 l1.length c1']) (.agg #[.bool n2, .slice a2 l2 c2']) (hO.below h) ((HX.out.lim hLim).keep h) ((HY.out.lim hLim).keep h)
  simp only [Array.append_assoc] at fc
  have hBw := Below.refl w0.heap.size w0
  clear hLim
  have HS := Lib.hid (show ∀ W, Out (fun k => k = w.heap.size + 1) w0 W → W.cell? ⟨fb, 0, none⟩ = some (.func (.func F) bnd caps) ∧ W.cell? ⟨w.heap.size, 0, none⟩ = some (.bool n1) ∧ W.cell? ⟨w.heap.size, 1, none⟩ = some (.slice a1 l1.length c1') ∧ W.cell? ⟨bb, 0, none⟩ = some (.slice (some ⟨b, off, none⟩) lb.length c') ∧ W.cell? ⟨kb, 0, none⟩ = some (.int .i64 (j : Int)) ∧ W.cell? ⟨b, off + j * 2, none⟩ = some (.bool n2) ∧ W.cell? ⟨b, off + j * 2 + 1, none⟩ = some (.slice a2 l2 c2') from fun W h => ⟨okeep h q1 (by omega), okeep h x0 (by omega), okeep h x1 (by omega), okeep h q2 (by omega), okeep h k0 (by omega), okeep h e0 (by omega), okeep h e1 (by omega)⟩)
  have hOw := Out.refl (fun k => k = w.heap.size + 1) w0
  go_region_held3 (fun w' => w'.cell? ⟨fb, 0, none⟩ = some (.func (.func F) bnd caps) ∧ w'.cell? ⟨w.heap.size, 0, none⟩ = some (.bool n1) ∧ w'.cell? ⟨w.heap.size, 1, none⟩ = some (.slice a1 l1.length c1') ∧ w'.cell? ⟨bb, 0, none⟩ = some (.slice (some ⟨b, off, none⟩) lb.length c') ∧ w'.cell? ⟨kb, 0, none⟩ = some (.int .i64 (j : Int)) ∧ w'.cell? ⟨b, off + j * 2, none⟩ = some (.bool n2) ∧ w'.cell? ⟨b, off + j * 2 + 1, none⟩ = some (.slice a2 l2 c2'))
    (first | (refine HS.out _ ?_; (repeat (first | exact hOw | refine Out.drew ?_ | refine Out.drewN ?_ _ | refine Out.set ?_ (fun _ => show w.heap.size + 1 = w.heap.size + 1 from rfl) _ | refine Out.alloc ?_ _)); done) | fail)
    (first
      | (go_at_fn F; refine (fc _ ?_).mono ?_; (repeat (first | exact Below.refl _ _ | exact hBw | refine Below.drew ?_ | refine below_drewN ?_ _ | refine bset ?_ (by simp <;> omega) _ | refine bal ?_ _)); rintro e w5 ⟨⟨v5, rfl, hv5⟩, hb5⟩; have hB5 : Below w0.heap.size w0 w5 := bthen (by repeat (first | exact Below.refl _ _ | exact hBw | refine Below.drew ?_ | refine below_drewN ?_ _ | refine bset ?_ (by simp <;> omega) _ | refine bal ?_ _)) hb5; (have hBd : Out (fun k => k = w.heap.size + 1) w0 w5 := Out.of_below _ hB5; clear hOw; have hOw := hBd; clear hBd); have r05f := bkeepf hB5 r0 r0f; have r15f := bkeepf hB5 r1 r1f; have r05 := bkeep hB5 r0; have r15 := bkeep hB5 r1; have HV := Lib.hid hv5; obtain ⟨n5, a5, c5, l5, rfl, -⟩ := hv5; unfold iv at *)
      | fail)
  all_goals
    have k05 := bkeep hB5 k0
    have k05f := bkeepf hB5 k0 k0f
    have t05 := Lib.hid (typ_keep ht0.out hB5)
    have hO5 := hO.below hB5
    clear fc
    go_wp2
    refine bodyPost_ret (v := .agg #[.bool n5, .slice a5 l5.length c5]) (by simp [results, Tryz.results143, go_sem, *]) rfl ⟨⟨_, rfl, (HV.out).put2 r05 r15 _ _⟩, ?_, ⟨?_, ?_⟩, ?_⟩
    · exact cell_far (cell_far k05 (by simp <;> omega) _) (by simp <;> omega) _
    · rw [World.frozen?_setCell, World.frozen?_setCell]; exact k05f
    · rw [typ_set, typ_set]; exact t05.out
    · exact (hO5.set (fun h => absurd h (by show ¬ (w.heap.size + 1 < w.heap.size); omega)) _).set (fun h => absurd h (by show ¬ (w.heap.size + 1 < w.heap.size); omega)) _
set_option maxRecDepth 100000 in
set_option maxHeartbeats 4000000 in
/-- both, of rows that are as long -/
theorem both_yes (va vb : Value) (la lb lz : List Int) (F : Nat) (bnd caps : Array Value) (w : World) (ha : PRow 0 w va la) (hb : PRow 0 w vb lb) (hl : la.length ≤ 1099511627775) (he : la.length = lb.length) (hz : lz.length = la.length)
    (eF : Enters Tryz.prog F) (hF : ∀ j W u1 u2, j < la.length → Below w.heap.size w W → IsInt W u1 (la.getD j 0) → IsInt W u2 (lb.getD j 0) → Calls Tryz.prog F (bnd ++ #[u1, u2] ++ caps) W fun e w' => (∃ v, e = .returned v ∧ IsInt w' v (lz.getD j 0)) ∧ Below W.heap.size W w') :
    Calls Tryz.prog 110 #[va, vb, .func (.func F) bnd caps] w fun e w' => (∃ u, e = .returned (.tuple #[u, .int .i64 0]) ∧ RowO IsInt 50 w.heap.size w' u lz) ∧ Below w.heap.size w w' := by
  have HF := Lib.hid hF
  have HA := Lib.hid ha
  have HB' := Lib.hid hb
  obtain ⟨aa, ca, rfl, -⟩ := ha
  obtain ⟨ab, cb, rfl, -⟩ := hb
  have hb0 : lb.length ≤ 1099511627775 := by omega
  have HE := Lib.hid (And.intro he hz)
  have hne : (la.length != lb.length) = false := by simp [he]
  have hneI : ((la.length : Int) != (lb.length : Int)) = false := by simp [he]
  have ec := fun W (hB : Below w.heap.size w W) (k0 : W.cell? ⟨w.heap.size + 1 + 1, 0, none⟩ = some (.int .i64 (((0 : Nat) : Int) - 1))) (k0f : W.frozen? ⟨w.heap.size + 1 + 1, 0, none⟩ = false) (f0 : W.cell? ⟨w.heap.size + 1, 0, none⟩ = some (.func (.func F) bnd caps)) (b0 : W.cell? ⟨w.heap.size, 0, none⟩ = some (.slice ab lb.length cb)) (hT : typOf W (w.heap.size + 1 + 1) = some 3) =>
    each_c (.slice aa la.length ca) la 143 #[] #[.pointer (some ⟨w.heap.size + 1 + 1, 0, none⟩), .pointer (some ⟨w.heap.size + 1, 0, none⟩), .pointer (some ⟨w.heap.size, 0, none⟩)] (fun j => lz.getD j 0)
      (fun j W' => Below w.heap.size w W' ∧ W'.cell? ⟨w.heap.size + 1 + 1, 0, none⟩ = some (.int .i64 ((j : Int) - 1)) ∧ W'.frozen? ⟨w.heap.size + 1 + 1, 0, none⟩ = false ∧ W'.cell? ⟨w.heap.size + 1, 0, none⟩ = some (.func (.func F) bnd caps) ∧ W'.cell? ⟨w.heap.size, 0, none⟩ = some (.slice ab lb.length cb) ∧ typOf W' (w.heap.size + 1 + 1) = some 3)
      (fun q => q = w.heap.size + 1 + 1) W (HA.out.keep lims_int hB) hl (ens Tryz.func143 (by kernel_rfl) rfl) ⟨hB, k0, k0f, f0, b0, hT⟩
      (fun j W1 W2 h hk ho => by
        obtain ⟨h1, h2, h3, h4, h5, h6⟩ := h
        have hz := cell_lt k0
        have g : ∀ q, q ≤ w.heap.size + 2 → ¬ (W.heap.size ≤ q) := fun q hq => by omega
        have hs1 := h1.size
        exact ⟨h1.trans (ho.to_below (fun q hq _ => g q (by omega)) h1.size), okeep ho h2 (g _ (by omega)), okeepf ho h2 h3 (g _ (by omega)), okeep ho h4 (g _ (by omega)), okeep ho h5 (g _ (by omega)), by rw [typ_of_block (w := W1) (ho.block _ (cell_lt h2) (g _ (by omega)))]; exact h6⟩)
      (fun q hq => by subst hq; exact hT)
      (fun j W1 u hj h hu => by
        obtain ⟨h1, h2, h3, h4, h5, h6⟩ := h
        refine (bothF_c u (.slice ab lb.length cb) lb (la.getD j 0) (lz.getD j 0) F bnd caps j (w.heap.size + 1 + 1) (w.heap.size + 1) w.heap.size W1 hu (HB'.out.keep lims_int h1) (by have := HE.out.1; omega) hb0 h2 h3 h4 h5 h6 (by omega) (by omega) eF (fun W2 u1 u2 hO k1 k2 => HF.out j W2 u1 u2 hj (h1.trans (hO.to_below (fun q hq _ e => by omega) h1.size)) k1 k2)).mono ?_
        rintro e w' ⟨h7, h8, ⟨h8f, h8t⟩, h9⟩
        have hkp : Kp (· ≠ 3) W1 w' := Kp.out h9 (fun q t hq ht k => by subst hq; rw [h6] at ht; exact k (Option.some.inj ht).symm)
        refine ⟨h7, ⟨h1.trans (h9.to_below (fun q hq _ e => by omega) h1.size), by rw [h8]; congr 2; omega, h8f, okeep h9 h4 (by omega), okeep h9 h5 (by omega), h8t⟩, hkp, h9⟩)
  have EC := Lib.hid ec
  clear ec he hz hF
  have hB := Below.refl w.heap.size w
  go_enter Tryz.func110, Tryz.ntmps110
  go_upto_region 4 with (fail)
  refine wp_name fun w1 hW1 => ?_
  have k0f : w1.frozen? ⟨w.heap.size + 1 + 1, 0, none⟩ = false := by rw [hW1]; simp [go_sem, *]
  have k0 : w1.cell? ⟨w.heap.size + 1 + 1, 0, none⟩ = some (.int .i64 (-1)) := by rw [hW1]; exact (by first | assumption | exact cell_new (by with_reducible first | rfl | (simp; done) | (simp; omega)) rfl | (repeat (first | assumption | exact cell_new (by with_reducible first | rfl | (simp; done) | (simp; omega)) rfl | refine cell_alloc ?_ _ | refine cell_drew ?_ | refine cell_drewN ?_ _ | refine cell_far ?_ (by simp) _ | (refine cell_far ?_ (by simp <;> omega) _))) | simp [go_sem, *])
  have zk0 := cell_lt k0
  have f0 : w1.cell? ⟨w.heap.size + 1, 0, none⟩ = some (.func (.func F) bnd caps) := by rw [hW1]; exact (by first | assumption | exact cell_new (by with_reducible first | rfl | (simp; done) | (simp; omega)) rfl | (repeat (first | assumption | exact cell_new (by with_reducible first | rfl | (simp; done) | (simp; omega)) rfl | refine cell_alloc ?_ _ | refine cell_drew ?_ | refine cell_drewN ?_ _ | refine cell_far ?_ (by simp) _ | (refine cell_far ?_ (by simp <;> omega) _))) | simp [go_sem, *])
  have zf0 := cell_lt f0
  have b0 : w1.cell? ⟨w.heap.size, 0, none⟩ = some (.slice ab lb.length cb) := by rw [hW1]; exact (by first | assumption | exact cell_new (by with_reducible first | rfl | (simp; done) | (simp; omega)) rfl | (repeat (first | assumption | exact cell_new (by with_reducible first | rfl | (simp; done) | (simp; omega)) rfl | refine cell_alloc ?_ _ | refine cell_drew ?_ | refine cell_drewN ?_ _ | refine cell_far ?_ (by simp) _ | (refine cell_far ?_ (by simp <;> omega) _))) | simp [go_sem, *])
  have zb0 := cell_lt b0
  have hB : Below w.heap.size w w1 := by rw [hW1]; repeat (first | exact Below.refl _ _ | exact hB | refine Below.drew ?_ | refine below_drewN ?_ _ | refine bset ?_ (by simp <;> omega) _ | refine bal ?_ _)
  have hT : Hid (typOf w1 (w.heap.size + 1 + 1) = some 3) := Lib.hid (by rw [hW1]; exact typ_fresh (by simp))
  have hz : w.heap.size ≤ w1.heap.size := hB.size
  clear hW1

  have hb11 := Below.refl w1.heap.size w1
  go_wp2_with fail
  refine (EC.out _ (by repeat (first | exact Below.refl _ _ | exact hB | refine Below.drew ?_ | refine below_drewN ?_ _ | refine bset ?_ (by simp <;> omega) _ | refine bal ?_ _)) ?_ ?_ ?_ ?_ ?_).mono ?_
  · simpa using k0
  · exact k0f
  · exact f0
  · exact b0
  · exact hT.out
  rintro e w2 ⟨⟨u, rfl, hu⟩, hp, hO⟩
  have HU := Lib.hid (show RowO IsInt 50 w.heap.size w2 u lz from (hu.rowO HE.out.2 (fun k hk => rfl)).rebase hz)
  have HP := Lib.hid hp.1
  obtain ⟨ua, uc, rfl⟩ := hu.ex
  clear hu hp hO
  go_wp2
  go_ret2
  exact ⟨⟨_, rfl, HU.out⟩, HP.out⟩
end Go.Proofs.YtdllbdfchloijaaGreatDoor

/- Ranges over functions whose bodies write blocks of their own: which blocks these are may change from round to round; what the iterator holds never lies in them. -/
namespace Go.Proofs.YtdllbdfchloijaaGreatDoor
open Go.ChangeShapes Go.WideShapes Go.ChangeAt Go.RowKit
set_option linter.unusedVariables false
set_option linter.unusedSimpArgs false
/-- blocks below n0, those of S and those of limbs lie as they lay -/
structure Clo (n0 : Nat) (S : Nat → Prop) (a b : World) : Prop where
  os : b.os = a.os
  tape : b.tape = a.tape
  output : b.output = a.output
  size : a.heap.size ≤ b.heap.size
  block : ∀ q, q < a.heap.size → (q < n0 ∨ S q ∨ typOf a q = some 106) → b.heap[q]? = a.heap[q]?
section
variable {n0 : Nat} {S : Nat → Prop} {a b c : World}
theorem Clo.refl (n0 : Nat) (S : Nat → Prop) (a : World) : Clo n0 S a a := ⟨rfl, rfl, rfl, Nat.le_refl _, fun _ _ _ => rfl⟩
theorem Clo.trans (h : Clo n0 S a b) (k : Clo n0 S b c) : Clo n0 S a c :=
  ⟨k.os.trans h.os, k.tape.trans h.tape, k.output.trans h.output, Nat.le_trans h.size k.size, fun q hq hs =>
    (k.block q (Nat.lt_of_lt_of_le hq h.size) (hs.imp id (Or.imp id fun ht => by unfold typOf; rw [h.block q hq hs]; exact ht))).trans (h.block q hq hs)⟩
theorem Clo.of_below (h : Below a.heap.size a b) : Clo n0 S a b := ⟨h.os, h.tape, h.output, h.size, fun q hq _ => h.block q hq⟩
theorem Clo.below (h : Clo n0 S a b) (k : Below b.heap.size b c) : Clo n0 S a c := h.trans (.of_below k)
theorem Clo.low (h : Clo n0 S a b) (hn : n0 ≤ a.heap.size) : Below n0 a b := ⟨h.os, h.tape, h.output, h.size, fun q hq => h.block q (by omega) (.inl hq)⟩
theorem Clo.lim (h : Clo n0 S a b) : Lim a b := fun q ht => by
  have hq : q < a.heap.size := by
    unfold typOf at ht
    rcases Nat.lt_or_ge q a.heap.size with h1 | h1
    · exact h1
    · rw [Array.getElem?_eq_none h1] at ht; cases ht
  have e := h.block q hq (.inr (.inr ht))
  exact ⟨by unfold typOf; rw [e]; exact ht, fun o n hc => by rw [World.cell?_of_block (w := a) e]; exact hc⟩
theorem Clo.cell (h : Clo n0 S a b) {p : Addr} {v : Value} (hp : p.block < n0 ∨ S p.block) (hc : a.cell? p = some v) : b.cell? p = some v := by
  have hq : p.block < a.heap.size := by
    unfold World.cell? at hc
    rcases Nat.lt_or_ge p.block a.heap.size with h1 | h1
    · exact h1
    · rw [Array.getElem?_eq_none h1] at hc; cases hc
  rw [World.cell?_of_block (w := a) (h.block p.block hq (hp.imp id .inl))]; exact hc
theorem Clo.frz (h : Clo n0 S a b) {p : Addr} {v : Value} (hp : p.block < n0 ∨ S p.block) (hc : a.cell? p = some v) (hf : a.frozen? p = false) : b.frozen? p = false := by
  have hq : p.block < a.heap.size := by
    unfold World.cell? at hc
    rcases Nat.lt_or_ge p.block a.heap.size with h1 | h1
    · exact h1
    · rw [Array.getElem?_eq_none h1] at hc; cases hc
  rw [World.frozen?_of_block (w := a) (h.block p.block hq (hp.imp id .inl))]; exact hf
theorem Clo.typ (h : Clo n0 S a b) {q : Nat} {t : TypeId} (hp : q < n0 ∨ S q) (ht : typOf a q = some t) : typOf b q = some t := by
  have hq : q < a.heap.size := by
    unfold typOf at ht
    rcases Nat.lt_or_ge q a.heap.size with h1 | h1
    · exact h1
    · rw [Array.getElem?_eq_none h1] at ht; cases ht
  unfold typOf; rw [h.block q hq (hp.imp id .inl)]; exact ht
end
/-- what the body's blocks are: cells, and no limbs -/
def Soil (S : Nat → Prop) (X : World) : Prop := ∀ q, S q → ∃ t, typOf X q = some t ∧ t ≠ 106
/-- the body's blocks behind a round: those that it had, and new ones -/
def Grew (S S' : Nat → Prop) (X : World) : Prop := ∀ q, S' q → S q ∨ X.heap.size ≤ q
theorem Grew.same (S : Nat → Prop) (X : World) : Grew S S X := fun _ h => .inl h
end Go.Proofs.YtdllbdfchloijaaGreatDoor

/- vm's laws: are blocks of the program those of the reference? -/
namespace Go.Proofs.YtdllbdfchloijaaGreatDoor
open Num
open Go.ChangeShapes Go.WideShapes Go.ChangeAt Go.RowKit
set_option linter.unusedVariables false
set_option linter.unusedSimpArgs false
attribute [local go_sem ↓] Go.wp_at_zero Go.wp_at_succ
end Go.Proofs.YtdllbdfchloijaaGreatDoor

/- vm's laws: works. -/
namespace Go.Proofs.YtdllbdfchloijaaGreatDoor
open Num
open Go.ChangeShapes Go.WideShapes Go.ChangeAt Go.RowKit
set_option linter.unusedVariables false
set_option linter.unusedSimpArgs false
end Go.Proofs.YtdllbdfchloijaaGreatDoor

/- vm's laws: works answers true. -/
namespace Go.Proofs.YtdllbdfchloijaaGreatDoor
open Num
open Go.ChangeShapes Go.WideShapes Go.ChangeAt Go.RowKit
set_option linter.unusedVariables false
set_option linter.unusedSimpArgs false
end Go.Proofs.YtdllbdfchloijaaGreatDoor

