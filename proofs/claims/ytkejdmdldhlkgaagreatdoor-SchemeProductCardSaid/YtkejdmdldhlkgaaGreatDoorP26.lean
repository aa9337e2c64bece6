/- Texts of this seat, laid together: TxtJ, MxT, MwA, MwB, MwC, MwJ, MwK, MwG. Each opens with its own remark, which says what it proves, and under which conditions. -/
import Derived.Test.YtkejdmdldhlkgaaGreatDoorP24
import Derived.Test.YtkejdmdldhlkgaaGreatDoorP05
import Derived.Maps.AppendAt
import Derived.Test.YtkejdmdldhlkgaaGreatDoorP18
import Derived.Test.YtkejdmdldhlkgaaGreatDoorP25
import Derived.Test.YtkejdmdldhlkgaaGreatDoorP20
import Derived.Test.YtkejdmdldhlkgaaGreatDoorP19
set_option linter.unusedVariables false
set_option linter.unusedSimpArgs false
/- integer: Text. -/
namespace Go.Proofs.YtkejdmdldhlkgaaGreatDoor
open Num
open Go.ChangeShapes Go.WideShapes Go.ChangeAt Go.RowKit
set_option linter.unusedVariables false
set_option linter.unusedSimpArgs false
attribute [local go_sem] Oper.semAt_some

/-- the text so far: a variable in memory (block c), its bytes from block base on -/
structure OutS (c base : Nat) (av : Option Addr) (cap : Nat) (L : List UInt8) (W : World) : Prop where
  cell : W.cell? ⟨c, 0, none⟩ = some (.slice av L.length cap)
  free : W.frozen? ⟨c, 0, none⟩ = false
  own : W.ownsRow base 5 1 (.slice av L.length cap) L.length (Lib.byteCells L)
  lt : c < base
theorem own_soft {B base : Nat} {W W' : World} {v : Value} {n : Nat} {xs : List Value} (h : W.ownsRow base 5 1 v n xs) (s : Soft B W W') : W'.ownsRow base 5 1 v n xs := by
  refine ⟨h.1, ?_⟩
  rcases h.2 with hn | ⟨g, cap, cur, rfl, hb, hgg, rest⟩
  · exact .inl hn
  · exact .inr ⟨g, cap, cur, rfl, hb, s.cells _ _ hgg rfl, rest⟩
theorem own_put {base : Nat} {W : World} {v : Value} {n : Nat} {xs : List Value} (h : W.ownsRow base 5 1 v n xs) (p : Addr) (x : Value) (hp : p.block < base) : (W.setCell p x).ownsRow base 5 1 v n xs := by
  refine ⟨h.1, ?_⟩
  rcases h.2 with hn | ⟨g, cap, cur, rfl, hb, hgg, rest⟩
  · exact .inl hn
  · exact .inr ⟨g, cap, cur, rfl, hb, (Below.heap_setCell _ _ _ _ (by omega)).trans hgg, rest⟩
theorem own_shape {base : Nat} {W : World} {v : Value} {L : List UInt8} (h : W.ownsRow base 5 1 v L.length (Lib.byteCells L)) : ∃ a c, v = .slice a L.length c := by
  rcases h.2 with ⟨rfl, h1⟩ | ⟨g, cap, cur, rfl, _⟩
  · exact ⟨none, 0, by rw [h1]⟩
  · exact ⟨_, _, rfl⟩
theorem OutS.soft {c base B : Nat} {av : Option Addr} {cap : Nat} {L : List UInt8} {W W' : World} (h : OutS c base av cap L W) (s : Soft B W W') : OutS c base av cap L W' :=
  ⟨s.cell h.cell, s.frozen h.cell h.free, own_soft h.own s, h.lt⟩
theorem OutS.keep {c base : Nat} {av : Option Addr} {cap : Nat} {L : List UInt8} {W W' : World} (h : OutS c base av cap L W) (hb : Below W.heap.size W W') : OutS c base av cap L W' :=
  ⟨bkeep hb h.cell, bkeepf hb h.cell h.free, own_below (w0 := W) h.own hb, h.lt⟩
/-- what the append and the store behind it leave -/
theorem OutS.next {c base : Nat} {av : Option Addr} {cap : Nat} {L X : List UInt8} {W w' : World} {v' : Value} (h : OutS c base av cap L W) (o : Obj)
    (hown : w'.ownsRow base 5 1 v' (L ++ X).length (Lib.byteCells (L ++ X))) (hg : (W.alloc o).grownBy w' (Value.slice av L.length cap).ownBlock) :
    ∃ av' cap', v' = .slice av' (L ++ X).length cap' ∧ OutS c base av' cap' (L ++ X) (w'.setCell ⟨c, 0, none⟩ v') ∧ KeepsOthers W (w'.setCell ⟨c, 0, none⟩ v') ∧ w'.cell? ⟨c, 0, none⟩ = some (.slice av L.length cap) ∧ w'.frozen? ⟨c, 0, none⟩ = false := by
  obtain ⟨av', cap', rfl⟩ := own_shape hown
  have hne : some c ≠ (Value.slice av L.length cap).ownBlock := fun e => by
    have := (h.own.lt c e.symm).1
    have := h.lt
    omega
  have c0 : w'.cell? ⟨c, 0, none⟩ = some (.slice av L.length cap) := hg.cell (cell_alloc h.cell o) hne
  have cf : w'.frozen? ⟨c, 0, none⟩ = false := by
    rw [World.frozen?_of_block (hg.block c (by have := cell_lt h.cell; simp; omega) hne)]
    exact bkeepf (bal (Below.refl _ _) _) h.cell h.free
  refine ⟨av', cap', rfl, ⟨cell_here c0 _, by rw [World.frozen?_setCell]; exact cf, own_put hown _ _ h.lt, h.lt⟩, ?_, c0, cf⟩
  refine ((KeepsOthers.alloc W o).trans (KeepsOthers.of_grownBy hg ?_)).trans (KeepsOthers.setCell _ _ _)
  intro j o' hj ho'
  rcases (h.own.alloc o).2 with ⟨h0, _⟩ | ⟨g, cap2, cur, h0, hb, hgg, rest⟩
  · rw [h0] at hj; simp [Value.ownBlock] at hj
  · rw [h0] at hj; simp [Value.ownBlock] at hj
    subst hj
    rw [hgg] at ho'; cases ho'; rfl
theorem OutS.str {c base : Nat} {av : Option Addr} {cap : Nat} {L : List UInt8} {W : World} (h : OutS c base av cap L W) : (convert 98 9 (.slice av L.length cap)).run Tryz.prog W = .ok (.string ⟨L.toArray⟩) W := by
  rcases h.own.2 with ⟨h1, h2⟩ | ⟨g, cap2, cur, h1, hb, hgg, rest⟩
  · obtain rfl : L = [] := List.length_eq_zero_iff.1 h2
    cases h1
    exact run_convert_bytes_nil W 98 5 Tryz.underlying98 Tryz.underlying5 0 0 9 Tryz.underlying9
  · cases h1
    have ho := h.own
    refine run_convert_bytes_back W 98 9 5 ⟨g, 0, none⟩ cap L Tryz.underlying98 Tryz.underlying5 Tryz.underlying9 fun j hj => ?_
    have := World.ownsRow.cellAt ho j (by omega)
    rw [bcells_get L j hj] at this
    unfold Addr.add
    split
    · subst_vars; simpa [hj] using this
    · simpa [hj] using this
theorem dig_map (L : List Nat) (h : ∀ d ∈ L, d < 10) : L.map (fun x => dig (x % 10)) = L.map dig := List.map_congr_left fun x hx => by rw [Nat.mod_eq_of_lt (h x hx)]
theorem digL_len {l : List Nat} (hl : Limbs l) (h1 : l.length ≤ 67108865) : (digL (val l)).length ≤ 2147483680 := by
  have h2 := val_lt hl
  rw [BB_pow] at h2
  have h3 := lowD_len _ _ h2
  unfold digL
  split
  · simp
  · rw [List.length_reverse]; omega
/-- a number's text: its sign, its digits -/
theorem intTxt_eq (n : Bool) (V : Nat) (hn : n = true → 0 < V) : intTxt (sg n V) = (if n then [45] else []) ++ (digL V).map (fun x => dig (x % 10)) := by
  have hd := digL_txt V
  have e : natTxt V = (digL V).map dig := hd.1
  rw [dig_map _ hd.2, ← e]
  unfold intTxt
  rw [sg_abs]
  cases n with
  | true => rw [if_pos (by have := hn rfl; simp [sg]; omega)]; rfl
  | false => rw [if_neg (by simp [sg])]; rfl


set_option maxRecDepth 100000 in
set_option maxHeartbeats 8000000 in
theorem intText_c (vx : Value) (x : Int) (k : Nat) (w : World) (hx : IsInt w vx x) (bx : Bd k x) (hk : k ≤ 2147483648) :
    Calls Tryz.prog 16 #[vx] w fun e w' => e = .returned (.string ⟨(intTxt x).toArray⟩) ∧ Below w.heap.size w w' := by
  obtain ⟨n1, a1, c1, l1, rfl, u1, g1, s1, rfl⟩ := hx
  have k1 : l1.length ≤ 67108865 := by
    by_cases h0 : l1 = []
    · subst h0; simp
    · have h1 := nrm_val_pos g1 h0
      rw [BB_pow] at h1
      have h2 : 32 * (l1.length - 1) < k := (Nat.pow_lt_pow_iff_right (a := 2) (by omega)).1 (Nat.lt_of_le_of_lt h1 (sg_bd bx))
      omega
  have HE := Lib.hid (intTxt_eq n1 (val l1) (fun h => by
    have h1 := nrm_val_pos g1 (s1 h)
    have : 0 < BB ^ (l1.length - 1) := Nat.pow_pos BB_pos
    omega))
  have HDL := Lib.hid (digL_len u1.2.2.1 k1)
  have HDT := Lib.hid (digL_txt (val l1))
  clear bx s1
  unfold iv
  obtain ⟨i0, z0, hi0, hz0, hsize0, hby0, hzs0⟩ := el8.info
  refine calls_of_wp_marks Tryz.func16 rfl ?_
  simp only [Tryz.ntmps16, List.size_toArray, List.length_cons, List.length_nil, Nat.reduceAdd, Nat.reduceSub, Array.replicate_succ, Array.replicate_zero, List.push_toArray, List.append_toArray, List.nil_append, List.cons_append, Array.append_empty, Array.empty_append]
  cases n1 with
  | false =>
    go_wp2_with fail
    refine (limbDigits_c a1 c1 l1 _ (u1.keep (bal (bal (Below.refl _ _) _) _)) k1).mono ?_
    rintro e wD ⟨B, rfl, hstr, hbD⟩
    have hO : OutS (w.heap.size + 1) (w.heap.size + 2) none 0 [] wD := OutS.keep ⟨cell_new (by simp) rfl, by rw [World.frozen?_alloc_at (hn := by simp)], World.ownsRow_nil _ _ _ _, by omega⟩ hbD
    have hBD : Below w.heap.size w wD := bthen (bal (bal (Below.refl _ _) _) _) hbD
    have HE := Lib.hid (show intTxt (sg false (val l1)) = ([] : List UInt8) ++ (digL (val l1)).map (fun x => dig (x % 10)) from HE.out)
    have hszD := hbD.size
    have hsD : w.heap.size + 2 ≤ wD.heap.size := by have := cell_lt hO.cell; omega
    go_wp2
    refine wp_rangeK (gf := 98) (lb := #[.pointer (some ⟨B, 0, none⟩)]) (w0 := wD) (L := digL (val l1)) (N := (digL (val l1)).length) (Kp := KeepsWalks) (by simp [Act.eval]) (enters_of Tryz.func98 (by kernel_rfl) rfl)
      (encs := fun x : Nat => #[.int .i64 ((x % 10 : Nat) : Int)]) (digits_stops B _ 8 _ _ wD HDT.out hstr (Nat.le_refl _)) (fun h k => walksK_t h k) (fun W l o o' h1 h2 h3 h4 => walksK_b W l o o' h1 h2 h3 h4) (Below.refl _ _) (fun _ => rfl)
      (fun pre W => (∃ av cap, OutS (w.heap.size + 1) (w.heap.size + 2) av cap (([] : List UInt8) ++ pre.map (fun x => dig (x % 10))) W) ∧ Below w.heap.size w W ∧ wD.heap.size ≤ W.heap.size)
      (fun c pre W => False)
      ?_ ?_ ?_ ?_ ?_
      (fun T x a' W => a' = { tmps := (T.setIfInBounds 13 (.int .i64 ((x % 10 : Nat) : Int))).setIfInBounds 4 (.int .i64 ((x % 10 : Nat) : Int)), defers := [] } ∧ wD.heap.size ≤ W.heap.size)
      ?_ ?_ ?assign0 ?body0 ?done0 ?stop0
    case assign0 =>
      rintro l pre x W K hi hK
      generalize x % 10 = d at *
      gi_wp2
      exact hK _ _ (KeepsFrom.refl _ _) (KeepsWalks.refl _) hi ⟨by simp, hi.2.2⟩
    case body0 =>
      rintro l pre x a' w6 ⟨⟨av6, cap6, hO6⟩, hB6, hs6⟩ ⟨rfl, _⟩ hl
      have hlm : (([] : List UInt8) ++ pre.map (fun x => dig (x % 10))).length ≤ 2147483690 := by
        have := HDL.out
        simp
        omega
      have HLN := Lib.hid (show ([] : List UInt8) ++ (pre ++ [x]).map (fun x => dig (x % 10)) = (([] : List UInt8) ++ pre.map (fun x => dig (x % 10))) ++ [dig (x % 10)] by simp)
      have hd10 : x % 10 < 10 := Nat.mod_lt _ (by omega)
      generalize ([] : List UInt8) ++ pre.map (fun x => dig (x % 10)) = Lp at *
      obtain ⟨bb, hbb⟩ : ∃ bb, bb = dig (x % 10) := ⟨_, rfl⟩
      rw [← hbb] at HLN
      have hb1 : (48 : Int) + ((x % 10 : Nat) : Int) = (bb.toNat : Int) := by rw [hbb, dig_nat hd10]; omega
      have hb2 : (bb.toNat : Int) % 256 = (bb.toNat : Int) := by have := bb.toNat_lt; omega
      clear hbb
      generalize x % 10 = d at *
      have c0 := hO6.cell
      have cf := hO6.free
      have hsz6 := cell_lt c0
      simp only [List.setIfInBounds_toArray, List.set_cons_succ, List.set_cons_zero]
      gi_wp2_with (gi_at_builtin; refine wpListIn_append_own _ rfl _ _ 98 rfl (w.heap.size + 2) 5 i0 z0 1 1 el8.ht hi0 hz0 hsize0 hby0 hzs0 el8.pos (.slice av6 Lp.length cap6) Lp.length (Lib.byteCells Lp) rfl (hO6.own.alloc _) ⟨w6.heap.size, 0, none⟩ 1 1 [.int .u8 (bb.toNat : Int)] rfl rfl (cell_one_new _ _ _) ?_ ?_ ?_ ?_ ?_; (simp [Value.oneCell']); (unfold maxLen; omega); omega; (simp; omega); intro v' w7 hown hg _; obtain ⟨av7, cap7, rfl, hO7, hKO, c7, f7⟩ := OutS.next hO6 (X := [bb]) _ (by rw [bcells_app, List.length_append]; exact hown) hg)
      have hB7 : Below w.heap.size w w7 := (bal hB6 _).grown hg (by simp; omega) (fun k e => by have := (hO6.own.lt k e).1; omega)
      have e7 : (Lp ++ [bb]).length = Lp.length + 1 := by simp
      rw [e7] at hO7 hKO
      have hs7 := hg.size
      simp at hs7
      refine ⟨hKO.from _, hKO.walks, ⟨_, _, by rw [HLN.out]; exact hO7⟩, bset hB7 (by simp) _, by simp; omega⟩
    case done0 =>
      rintro D w8 hDs ⟨⟨av8, cap8, hO8⟩, hB8, hs8⟩ hK0
      rw [← HE.out] at hO8
      have c0 := hO8.cell
      have hst := hO8.str
      go_wp2
      refine ⟨by simp, .inl ⟨_, _, rfl, run_takeDeferred (b := D) (ds := []) hK0, ?_⟩⟩
      refine ⟨.string ⟨(intTxt (sg false (val l1))).toArray⟩, ?_, rfl, b_put hB8 (by omega) _⟩
      simp [results, Tryz.results16, go_sem]
    case stop0 => intro D c pre W _ _ h; cases h
    · rintro pre W W' ⟨⟨av, cap, h⟩, h2, h3⟩ s; exact ⟨⟨av, cap, h.soft s⟩, h2.trans (s.below.mono (by omega)), Nat.le_trans h3 s.below.size⟩
    · exact fun c pre W W' h s => h
    · exact fun pre W h => h.2.2
    · exact fun c pre W h => h.elim
    · exact ⟨⟨_, _, by simpa using hO⟩, hBD, Nat.le_refl _⟩
    · rintro x a' W W' ⟨rfl, h⟩ s; exact ⟨rfl, Nat.le_trans h s.below.size⟩
    · rintro x a' W ⟨rfl, h⟩; exact h
  | true =>
    have hO0 : OutS (w.heap.size + 1) (w.heap.size + 2) none 0 [] ((w.alloc (.cells #[.bool true, .slice a1 l1.length c1] 41)).alloc (.cells #[.slice none 0 0] 98)) := ⟨cell_new (by simp) rfl, by rw [World.frozen?_alloc_at (hn := by simp)], World.ownsRow_nil _ _ _ _, by omega⟩
    have x00 : (((w.alloc (.cells #[.bool true, .slice a1 l1.length c1] 41)).alloc (.cells #[.slice none 0 0] 98)).alloc (.cells #[.int .u8 45] 5)).cell? ⟨w.heap.size, 1, none⟩ = some (.slice a1 l1.length c1) := cell_alloc (cell_alloc (cell_new rfl rfl) _) _
    have hnw : ∀ j u, [Value.int .u8 45][j]? = some u → (((w.alloc (.cells #[.bool true, .slice a1 l1.length c1] 41)).alloc (.cells #[.slice none 0 0] 98)).alloc (.cells #[.int .u8 45] 5)).cell? ((⟨w.heap.size + 1 + 1, 0, none⟩ : Addr).add j) = some u := fun j u hj => by
      have h := cell_one_new ((w.alloc (.cells #[.bool true, .slice a1 l1.length c1] 41)).alloc (.cells #[.slice none 0 0] 98)) (.int .u8 45) 5 j u hj
      simpa using h
    go_wp2_with (at_builtin; go_loud (refine wpList_append_own _ rfl _ _ 98 rfl (w.heap.size + 2) 5 i0 z0 1 1 el8.ht hi0 hz0 hsize0 hby0 hzs0 el8.pos (.slice none 0 0) 0 [] rfl (World.ownsRow_nil _ _ _ _) ⟨w.heap.size + 1 + 1, 0, none⟩ 1 1 [.int .u8 45] rfl rfl hnw ?_ ?_ ?_ ?_ ?_; (simp [Value.oneCell']); (unfold maxLen; omega); omega; (simp); intro v' w7 hown hg _; obtain ⟨av7, cap7, rfl, hO7, hKO, c7, f7⟩ := OutS.next hO0 (X := [45]) _ hown hg; have x1 := hg.cell x00 (by simp [Value.ownBlock])))
    have hB7 : Below w.heap.size w w7 := (bal (bal (bal (Below.refl _ _) _) _) _).grown hg (by simp; omega) (fun k e => by simp [Value.ownBlock] at e)
    have hs7 := hg.size
    simp at hs7
    refine (limbDigits_c a1 c1 l1 _ (u1.keep (bset hB7 (by simp) _)) k1).mono ?_
    rintro e wD ⟨B, rfl, hstr, hbD⟩
    have hO := hO7.keep hbD
    have hBD : Below w.heap.size w wD := bthen (bset hB7 (by simp) _) hbD
    have HE := Lib.hid (show intTxt (sg true (val l1)) = ([45] : List UInt8) ++ (digL (val l1)).map (fun x => dig (x % 10)) from HE.out)
    have hszD := hbD.size
    have hsD : w.heap.size + 2 ≤ wD.heap.size := by have := cell_lt hO.cell; omega
    go_wp2
    refine wp_rangeK (gf := 98) (lb := #[.pointer (some ⟨B, 0, none⟩)]) (w0 := wD) (L := digL (val l1)) (N := (digL (val l1)).length) (Kp := KeepsWalks) (by simp [Act.eval]) (enters_of Tryz.func98 (by kernel_rfl) rfl)
      (encs := fun x : Nat => #[.int .i64 ((x % 10 : Nat) : Int)]) (digits_stops B _ 8 _ _ wD HDT.out hstr (Nat.le_refl _)) (fun h k => walksK_t h k) (fun W l o o' h1 h2 h3 h4 => walksK_b W l o o' h1 h2 h3 h4) (Below.refl _ _) (fun _ => rfl)
      (fun pre W => (∃ av cap, OutS (w.heap.size + 1) (w.heap.size + 2) av cap (([45] : List UInt8) ++ pre.map (fun x => dig (x % 10))) W) ∧ Below w.heap.size w W ∧ wD.heap.size ≤ W.heap.size)
      (fun c pre W => False)
      ?_ ?_ ?_ ?_ ?_
      (fun T x a' W => a' = { tmps := (T.setIfInBounds 13 (.int .i64 ((x % 10 : Nat) : Int))).setIfInBounds 4 (.int .i64 ((x % 10 : Nat) : Int)), defers := [] } ∧ wD.heap.size ≤ W.heap.size)
      ?_ ?_ ?assign0 ?body0 ?done0 ?stop0
    case assign0 =>
      rintro l pre x W K hi hK
      generalize x % 10 = d at *
      gi_wp2
      exact hK _ _ (KeepsFrom.refl _ _) (KeepsWalks.refl _) hi ⟨by simp, hi.2.2⟩
    case body0 =>
      rintro l pre x a' w6 ⟨⟨av6, cap6, hO6⟩, hB6, hs6⟩ ⟨rfl, _⟩ hl
      have hlm : (([45] : List UInt8) ++ pre.map (fun x => dig (x % 10))).length ≤ 2147483690 := by
        have := HDL.out
        simp
        omega
      have HLN := Lib.hid (show ([45] : List UInt8) ++ (pre ++ [x]).map (fun x => dig (x % 10)) = (([45] : List UInt8) ++ pre.map (fun x => dig (x % 10))) ++ [dig (x % 10)] by simp)
      have hd10 : x % 10 < 10 := Nat.mod_lt _ (by omega)
      generalize ([45] : List UInt8) ++ pre.map (fun x => dig (x % 10)) = Lp at *
      obtain ⟨bb, hbb⟩ : ∃ bb, bb = dig (x % 10) := ⟨_, rfl⟩
      rw [← hbb] at HLN
      have hb1 : (48 : Int) + ((x % 10 : Nat) : Int) = (bb.toNat : Int) := by rw [hbb, dig_nat hd10]; omega
      have hb2 : (bb.toNat : Int) % 256 = (bb.toNat : Int) := by have := bb.toNat_lt; omega
      clear hbb
      generalize x % 10 = d at *
      have c0 := hO6.cell
      have cf := hO6.free
      have hsz6 := cell_lt c0
      simp only [List.setIfInBounds_toArray, List.set_cons_succ, List.set_cons_zero]
      gi_wp2_with (gi_at_builtin; refine wpListIn_append_own _ rfl _ _ 98 rfl (w.heap.size + 2) 5 i0 z0 1 1 el8.ht hi0 hz0 hsize0 hby0 hzs0 el8.pos (.slice av6 Lp.length cap6) Lp.length (Lib.byteCells Lp) rfl (hO6.own.alloc _) ⟨w6.heap.size, 0, none⟩ 1 1 [.int .u8 (bb.toNat : Int)] rfl rfl (cell_one_new _ _ _) ?_ ?_ ?_ ?_ ?_; (simp [Value.oneCell']); (unfold maxLen; omega); omega; (simp; omega); intro v' w7 hown hg _; obtain ⟨av7, cap7, rfl, hO7, hKO, c7, f7⟩ := OutS.next hO6 (X := [bb]) _ (by rw [bcells_app, List.length_append]; exact hown) hg)
      have hB7 : Below w.heap.size w w7 := (bal hB6 _).grown hg (by simp; omega) (fun k e => by have := (hO6.own.lt k e).1; omega)
      have e7 : (Lp ++ [bb]).length = Lp.length + 1 := by simp
      rw [e7] at hO7 hKO
      have hs7 := hg.size
      simp at hs7
      refine ⟨hKO.from _, hKO.walks, ⟨_, _, by rw [HLN.out]; exact hO7⟩, bset hB7 (by simp) _, by simp; omega⟩
    case done0 =>
      rintro D w8 hDs ⟨⟨av8, cap8, hO8⟩, hB8, hs8⟩ hK0
      rw [← HE.out] at hO8
      have c0 := hO8.cell
      have hst := hO8.str
      go_wp2
      refine ⟨by simp, .inl ⟨_, _, rfl, run_takeDeferred (b := D) (ds := []) hK0, ?_⟩⟩
      refine ⟨.string ⟨(intTxt (sg true (val l1))).toArray⟩, ?_, rfl, b_put hB8 (by omega) _⟩
      simp [results, Tryz.results16, go_sem]
    case stop0 => intro D c pre W _ _ h; cases h
    · rintro pre W W' ⟨⟨av, cap, h⟩, h2, h3⟩ s; exact ⟨⟨av, cap, h.soft s⟩, h2.trans (s.below.mono (by omega)), Nat.le_trans h3 s.below.size⟩
    · exact fun c pre W W' h s => h
    · exact fun pre W h => h.2.2
    · exact fun c pre W h => h.elim
    · exact ⟨⟨_, _, by simpa using hO⟩, hBD, Nat.le_refl _⟩
    · rintro x a' W W' ⟨rfl, h⟩ s; exact ⟨rfl, Nat.le_trans h s.below.size⟩
    · rintro x a' W ⟨rfl, h⟩; exact h
end Go.Proofs.YtkejdmdldhlkgaaGreatDoor

/- row: Text; matrix: Text. -/
namespace Go.Proofs.YtkejdmdldhlkgaaGreatDoor
open Num
open Go.ChangeShapes Go.WideShapes Go.ChangeAt Go.RowKit
set_option linter.unusedVariables false
set_option linter.unusedSimpArgs false
attribute [local go_sem ↓] Go.wp_at_zero Go.wp_at_succ
/-- a list's text -/
def brTxt (L : List (List UInt8)) : List UInt8 := 91 :: (Lib.join L [32] ++ [93])
/-- a row's text -/
def rowTxt (l : List Int) : List UInt8 := brTxt (l.map intTxt)
/-- a matrix's text -/
def matTxt (g : Grid) : List UInt8 := brTxt (g.map rowTxt)
theorem brTxt_arr (L : List (List UInt8)) : (⟨#[91]⟩ : ByteArray) ++ ⟨(Lib.join L [32]).toArray⟩ ++ ⟨#[93]⟩ = ⟨(brTxt L).toArray⟩ := by
  apply ByteArray.ext
  simp [brTxt, ByteArray.data_append]
set_option maxRecDepth 100000 in
set_option maxHeartbeats 4000000 in
theorem rowText_c (v : Value) (l : List Int) (k : Nat) (w : World) (hv : PRow 0 w v l) (hl : l.length ≤ 1099511627775) (hb : ∀ j, Bd k (l.getD j 0)) (hk : k ≤ 2147483648) (hlen : (Lib.join (l.map intTxt) [32]).length ≤ 140737488355328) :
    Calls Tryz.prog 89 #[v] w fun e w' => e = .returned (.string ⟨(rowTxt l).toArray⟩) ∧ Below w.heap.size w w' := by
  have HV := Lib.hid hv
  have HBD := Lib.hid hb
  have HLEN := Lib.hid hlen
  obtain ⟨va, vc, rfl, -⟩ := hv
  clear hb hlen
  have hB := Below.refl w.heap.size w
  go_enter Tryz.func89, Tryz.ntmps89
  go_wp2
  go_loopw [3, 8] (fun v x wr => ∃ j : Nat, j ≤ l.length ∧ x = .int .i64 j ∧ Hid (OwnL 9 PTx w wr v ((l.take j).map intTxt))) (fun _ x _ => l.length - (intOf x).toNat)
  case atStart => exact ⟨0, Nat.zero_le _, rfl, Lib.hid (OwnL.nil _ _ hB)⟩
  case round =>
    obtain ⟨j, hj, rfl, hO⟩ := hrel
    have hBr := hO.out.bel
    obtain ⟨oa, oc, hvv⟩ := hO.out.ex
    rw [List.length_map, List.length_take, Nat.min_eq_left hj] at hvv
    subst hvv
    by_cases hlt : j < l.length
    · have hltI : (j : Int) < (l.length : Int) := by omega
      obtain ⟨a', c', he, -, vr⟩ := (HV.out.keep lims_int hBr).view
      obtain ⟨rfl, -, rfl⟩ := Value.slice.inj he
      obtain ⟨b, off, n2, a2, l2, cc2, rfl, d0, d1, hi⟩ := vr j hlt
      have bj := HBD.out j
      have HTK := Lib.hid (take_getD 0 hlt)
      obtain ⟨x, hx⟩ : ∃ x, l.getD j 0 = x := ⟨_, rfl⟩
      rw [hx] at hi bj HTK
      have tc := fun W (h : Below wr.heap.size wr W) => intText_c _ x k W (hi.keep h) bj hk
      have zd := cell_lt d0
      have hBw := Below.refl wr.heap.size wr
      clear hx he vr hi bj
      go_wp2_with fail
      refine (tc _ (by repeat (first | exact Below.refl _ _ | exact hBw | refine Below.drew ?_ | refine below_drewN ?_ _ | refine bset ?_ (by simp <;> omega) _ | refine bal ?_ _))).mono ?_
      rintro e w2 ⟨rfl, hb2⟩
      have hb2' : Below wr.heap.size wr w2 := bthen (by repeat (first | exact Below.refl _ _ | exact hBw | refine Below.drew ?_ | refine below_drewN ?_ _ | refine bset ?_ (by simp <;> omega) _ | refine bal ?_ _)) hb2
      have HO2 := Lib.hid (hO.out.below prs_ptx hb2')
      clear tc hO d0 d1
      go_wp2_with (at_builtin; refine appL elStr prs_ptx (fun h => h) (by rfl) (by rfl) (HO2.out.below prs_ptx (bal (Below.refl _ _) _)) (show PTx _ (.string ⟨(intTxt x).toArray⟩) (intTxt x) from rfl) (by rfl) (by rfl) (cell_new rfl rfl) (by rw [List.length_map, List.length_take]; omega) (by rw [List.length_map, List.length_take]; unfold maxLen; omega) ?_)
      intro v' w8 hO8 hk8
      have HO8 := Lib.hid (show OwnL 9 PTx w w8 v' ((l.take (j + 1)).map intTxt) from by rw [HTK.out, List.map_append, List.map_take]; exact hO8)
      clear hO8 hk8
      go_wp2
      exact ⟨⟨j + 1, by omega, by go_num, HO8⟩, by simp [intOf]; omega⟩
    · obtain rfl : j = l.length := by omega
      have hltI : ¬ (l.length : Int) < (l.length : Int) := by omega
      have HEQ := Lib.hid (brTxt_arr (l.map intTxt))
      have jc := fun W (h : Below wr.heap.size wr W) => join_c (.slice oa l.length oc) (l.map intTxt) w.heap.size W ((by have h2 := hO.out.isL; rw [List.take_length] at h2; exact h2 : IsL 9 PTx w.heap.size wr _ _).keep prs_ptx h) (by rw [List.length_map]; omega) HLEN.out
      have hJ := HLEN.out
      obtain ⟨J, hJE⟩ : ∃ J, Lib.join (l.map intTxt) [32] = J := ⟨_, rfl⟩
      rw [hJE] at jc HEQ hJ
      clear hJE hO
      have hJ1 : ¬ 9223372036854775807 < 1 + J.length := by omega
      have hJ2 : ¬ 9223372036854775807 < 1 + J.length + 1 := by omega
      have hBw := Below.refl wr.heap.size wr
      go_wp2_with fail
      refine (jc _ (by repeat (first | exact Below.refl _ _ | exact hBw | refine Below.drew ?_ | refine below_drewN ?_ _ | refine bset ?_ (by simp <;> omega) _ | refine bal ?_ _))).mono ?_
      rintro e w2 ⟨rfl, hb2⟩
      have hb3 := bthen hBr (bthen (by repeat (first | exact Below.refl _ _ | exact hBw | refine Below.drew ?_ | refine below_drewN ?_ _ | refine bset ?_ (by simp <;> omega) _ | refine bal ?_ _)) hb2)
      clear jc
      go_wp2
      go_ret
      exact ⟨congrArg (fun s => Ending.returned (.string s)) HEQ.out, by repeat (first | exact Below.refl _ _ | exact hb3 | refine Below.drew ?_ | refine below_drewN ?_ _ | refine bset ?_ (by simp <;> omega) _ | refine bal ?_ _)⟩
set_option maxRecDepth 100000 in
set_option maxHeartbeats 4000000 in
theorem matText_c (v : Value) (g : Grid) (k : Nat) (w : World) (hv : IsM 0 w v g) (hg : g.length ≤ 1099511627775) (hl : ∀ i, i < g.length → (g.getD i []).length ≤ 1099511627775) (hb : BdM k g) (hk : k ≤ 2147483648) (h1 : ∀ i, i < g.length → (Lib.join ((g.getD i []).map intTxt) [32]).length ≤ 140737488355328) (h2 : (Lib.join (g.map rowTxt) [32]).length ≤ 140737488355328) :
    Calls Tryz.prog 43 #[v] w fun e w' => e = .returned (.string ⟨(matTxt g).toArray⟩) ∧ Below w.heap.size w w' := by
  obtain ⟨ga, gc, rfl, hv⟩ := hv
  have HV := Lib.hid hv
  have HBD := Lib.hid hb
  have HLEN := Lib.hid (And.intro hl (And.intro h1 h2))
  clear hb hl h1 h2 hv
  have hB := Below.refl w.heap.size w
  go_enter Tryz.func43, Tryz.ntmps43
  go_wp2
  refine wp_name fun w1 hW1 => ?_
  have hB1 : Below w.heap.size w w1 := by rw [hW1]; repeat (first | exact Below.refl _ _ | exact hB | refine Below.drew ?_ | refine below_drewN ?_ _ | refine bset ?_ (by simp <;> omega) _ | refine bal ?_ _)
  clear hW1
  go_loopw [3, 9] (fun v x wr => ∃ j : Nat, j ≤ g.length ∧ x = .int .i64 j ∧ Hid (OwnL 9 PTx w wr v ((g.take j).map rowTxt))) (fun _ x _ => g.length - (intOf x).toNat)
  case atStart => exact ⟨0, Nat.zero_le _, rfl, Lib.hid (OwnL.nil _ _ hB1)⟩
  case round =>
    obtain ⟨j, hj, rfl, hO⟩ := hrel
    have hBr := hO.out.bel
    obtain ⟨oa, oc, hvv⟩ := hO.out.ex
    rw [List.length_map, List.length_take, Nat.min_eq_left hj] at hvv
    subst hvv
    by_cases hlt : j < g.length
    · have hltI : (j : Int) < (g.length : Int) := by omega
      obtain ⟨c', gb, go, ra, rc, e2, hu, hp⟩ := (HV.out.keep (prs_prow 0) hBr).row hlt
      obtain ⟨rfl, -, rfl⟩ := Value.slice.inj e2
      have bj := HBD.out j
      have HTK := Lib.hid (take_getD [] hlt)
      have hlj := HLEN.out.1 j hlt
      have h1j := HLEN.out.2.1 j hlt
      obtain ⟨x, hx⟩ : ∃ x, g.getD j [] = x := ⟨_, rfl⟩
      rw [hx] at hu hp HTK hlj h1j
      have bj2 : ∀ i, Bd k (x.getD i 0) := fun i => by rw [← hx]; exact bj i
      have tc := fun W (h : Below wr.heap.size wr W) => rowText_c _ x k W (hp.keep lims_int h) hlj bj2 hk h1j
      have zd := cell_lt hu
      have hBw := Below.refl wr.heap.size wr
      clear hx e2 hp bj bj2 hlj h1j
      go_wp2_with fail
      refine (tc _ (by repeat (first | exact Below.refl _ _ | exact hBw | refine Below.drew ?_ | refine below_drewN ?_ _ | refine bset ?_ (by simp <;> omega) _ | refine bal ?_ _))).mono ?_
      rintro e w2 ⟨rfl, hb2⟩
      have hb2' : Below wr.heap.size wr w2 := bthen (by repeat (first | exact Below.refl _ _ | exact hBw | refine Below.drew ?_ | refine below_drewN ?_ _ | refine bset ?_ (by simp <;> omega) _ | refine bal ?_ _)) hb2
      have HO2 := Lib.hid (hO.out.below prs_ptx hb2')
      clear tc hO hu
      go_wp2_with (at_builtin; refine appL elStr prs_ptx (fun h => h) (by rfl) (by rfl) (HO2.out.below prs_ptx (bal (Below.refl _ _) _)) (show PTx _ (.string ⟨(rowTxt x).toArray⟩) (rowTxt x) from rfl) (by rfl) (by rfl) (cell_new rfl rfl) (by rw [List.length_map, List.length_take]; omega) (by rw [List.length_map, List.length_take]; unfold maxLen; omega) ?_)
      intro v' w8 hO8 hk8
      have HO8 := Lib.hid (show OwnL 9 PTx w w8 v' ((g.take (j + 1)).map rowTxt) from by rw [HTK.out, List.map_append, List.map_take]; exact hO8)
      clear hO8 hk8
      go_wp2
      exact ⟨⟨j + 1, by omega, by go_num, HO8⟩, by simp [intOf]; omega⟩
    · obtain rfl : j = g.length := by omega
      have hltI : ¬ (g.length : Int) < (g.length : Int) := by omega
      have HEQ := Lib.hid (brTxt_arr (g.map rowTxt))
      have jc := fun W (h : Below wr.heap.size wr W) => join_c (.slice oa g.length oc) (g.map rowTxt) w.heap.size W ((by have h2 := hO.out.isL; rw [List.take_length] at h2; exact h2 : IsL 9 PTx w.heap.size wr _ _).keep prs_ptx h) (by rw [List.length_map]; omega) HLEN.out.2.2
      have hJ := HLEN.out.2.2
      obtain ⟨J, hJE⟩ : ∃ J, Lib.join (g.map rowTxt) [32] = J := ⟨_, rfl⟩
      rw [hJE] at jc HEQ hJ
      clear hJE hO
      have hJ1 : ¬ 9223372036854775807 < 1 + J.length := by omega
      have hJ2 : ¬ 9223372036854775807 < 1 + J.length + 1 := by omega
      have hBw := Below.refl wr.heap.size wr
      go_wp2_with fail
      refine (jc _ (by repeat (first | exact Below.refl _ _ | exact hBw | refine Below.drew ?_ | refine below_drewN ?_ _ | refine bset ?_ (by simp <;> omega) _ | refine bal ?_ _))).mono ?_
      rintro e w2 ⟨rfl, hb2⟩
      have hb3 := bthen hBr (bthen (by repeat (first | exact Below.refl _ _ | exact hBw | refine Below.drew ?_ | refine below_drewN ?_ _ | refine bset ?_ (by simp <;> omega) _ | refine bal ?_ _)) hb2)
      clear jc
      go_wp2
      go_ret
      exact ⟨congrArg (fun s => Ending.returned (.string s)) HEQ.out, by repeat (first | exact Below.refl _ _ | exact hb3 | refine Below.drew ?_ | refine below_drewN ?_ _ | refine bset ?_ (by simp <;> omega) _ | refine bal ?_ _)⟩
end Go.Proofs.YtkejdmdldhlkgaaGreatDoor

/- matrix's laws: list; Pivots as a value; works answers true. -/
namespace Go.Proofs.YtkejdmdldhlkgaaGreatDoor
open Num
open Go.ChangeShapes Go.WideShapes Go.ChangeAt Go.RowKit
set_option linter.unusedVariables false
set_option linter.unusedSimpArgs false
attribute [local go_sem ↓] Go.wp_at_zero Go.wp_at_succ
end Go.Proofs.YtkejdmdldhlkgaaGreatDoor

/- matrix's laws: works answers true. -/
namespace Go.Proofs.YtkejdmdldhlkgaaGreatDoor
open Num
open Go.ChangeShapes Go.WideShapes Go.ChangeAt Go.RowKit
set_option linter.unusedVariables false
set_option linter.unusedSimpArgs false
attribute [local go_sem ↓] Go.wp_at_zero Go.wp_at_succ
end Go.Proofs.YtkejdmdldhlkgaaGreatDoor

/- matrix's laws: same, line, is, comes; the matrix's Row; the reference's Cols. -/
namespace Go.Proofs.YtkejdmdldhlkgaaGreatDoor
open Num
open Go.ChangeShapes Go.WideShapes Go.ChangeAt Go.RowKit
set_option linter.unusedVariables false
set_option linter.unusedSimpArgs false
attribute [local go_sem ↓] Go.wp_at_zero Go.wp_at_succ
end Go.Proofs.YtkejdmdldhlkgaaGreatDoor

/- matrix: Apply. -/
namespace Go.Proofs.YtkejdmdldhlkgaaGreatDoor
open Num
open Go.ChangeShapes Go.WideShapes Go.ChangeAt Go.RowKit
set_option linter.unusedVariables false
set_option linter.unusedSimpArgs false
attribute [local go_sem ↓] Go.wp_at_zero Go.wp_at_succ
/-- what a matrix turns numbers into -/
def applyG (g : Grid) (l : List Int) : List Int := g.map fun r => dotL r l
/-- what Apply answers -/
def AppPost (g : Grid) (l : List Int) (w : World) (e : Ending) (w' : World) : Prop :=
  ((cols g ≠ 0 ∧ l.length = cols g ∧ ∃ v, e = .returned (.tuple #[v, .int .i64 0]) ∧ RowO IsInt 41 w.heap.size w' v (applyG g l)) ∨ (¬ (cols g ≠ 0 ∧ l.length = cols g) ∧ e = .returned (.tuple #[.slice none 0 0, .int .i64 5]))) ∧ Below w.heap.size w w'
theorem app_get {g : Grid} {l : List Int} {i : Nat} (h : i < g.length) : (applyG g l).getD i 0 = dotL (g.getD i []) l := by simp [applyG, h]
set_option maxRecDepth 100000 in
set_option maxHeartbeats 8000000 in
theorem applyM_c (vm vl : Value) (g : Grid) (l : List Int) (k m : Nat) (w : World) (hm : IsM 0 w vm g) (hv : PRow 0 w vl l) (rg : Rct g (cols g)) (hn : g.length ≤ 65536) (hc : cols g ≤ 65536) (hl : l.length ≤ 1099511627775) (bg : BdM k g) (bl : ∀ j, Bd m (l.getD j 0)) (hk : k + m + cols g ≤ 17179869184) :
    Calls Tryz.prog 22 #[vm, vl] w (AppPost g l w) := by
  have HM := Lib.hid hm
  have HV := Lib.hid hv
  have HRG := Lib.hid rg
  have HBD := Lib.hid (And.intro bg bl)
  obtain ⟨a, c, rfl, -⟩ := hm
  obtain ⟨la, lc, rfl, -⟩ := hv
  have COC := Lib.hid (fun V (q : Below w.heap.size w V) => (show Calls Tryz.prog 53 #[.agg #[.slice a g.length c]] V fun e w' => e = .returned (.int .i64 (cols g : Nat)) ∧ Below V.heap.size V w' from by
    obtain ⟨a', c', e, hl⟩ := HM.out.keep q
    cases e
    exact colsM_c _ _ g V hl))
  have hzg : g.length = 0 → cols g = 0 := fun h => by rw [List.length_eq_zero_iff.1 h]; rfl
  have HZG := Lib.hid hzg
  have HAP := Lib.hid (fun i (h : i < g.length) => app_get (l := l) h)
  have HAL := Lib.hid (show (applyG g l).length = g.length by simp [applyG])
  unfold AppPost
  obtain ⟨n, hnE⟩ : ∃ n, g.length = n := ⟨_, rfl⟩
  have HN := Lib.hid hnE
  obtain ⟨cc, hcE⟩ : ∃ n, cols g = n := ⟨_, rfl⟩
  rw [hnE] at COC hn HZG
  rw [hcE] at COC hc hk HRG HZG
  have HCC := Lib.hid hcE
  rw [hnE]
  clear rg bg bl hnE hcE hzg
  have hB := Below.refl w.heap.size w
  by_cases h0 : cc = 0
  · have hI : ((cc : Int) == 0) = true := by simp [h0]
    have HNO := Lib.hid (show ¬ (cols g ≠ 0 ∧ l.length = cols g) from fun h => h.1 (by rw [HCC.out]; exact h0))
    clear h0
    go_enter Tryz.func22, Tryz.ntmps22
    go_wp2_with fail
    (with_reducible refine (COC.out _ ?_).mono ?_); (repeat (first | exact Below.refl _ _ | exact hB | refine Below.drew ?_ | refine below_drewN ?_ _ | refine bset ?_ (by simp <;> omega) _ | refine bal ?_ _))
    rintro e w1 ⟨rfl, hb1⟩
    have hB1 : Below w.heap.size w w1 := bthen (by repeat (first | exact Below.refl _ _ | exact hB | refine Below.drew ?_ | refine below_drewN ?_ _ | refine bset ?_ (by simp <;> omega) _ | refine bal ?_ _)) hb1
    clear COC
    go_wp2
    refine bodyPost_ret (v := .tuple #[.slice none 0 0, .int .i64 5]) (by simp [results, Tryz.results22, go_sem, *]) rfl ⟨.inr ⟨HNO.out, rfl⟩, hB1⟩
  · have hI : ((cc : Int) == 0) = false := by simp; omega
    by_cases hlc : l.length = cc
    · have HYES := Lib.hid (show cols g ≠ 0 ∧ l.length = cols g from by rw [HCC.out]; exact ⟨h0, hlc⟩)
      have hI2 : ((l.length : Int) != (cc : Int)) = false := by simp [hlc]
      have HLC := Lib.hid hlc
      obtain ⟨ll, hll⟩ : ∃ x, l.length = x := ⟨_, rfl⟩
      rw [hll] at hI2 hl HLC
      have HLL := Lib.hid hll
      have hnp : 0 < n := Nat.pos_of_ne_zero fun e => h0 (HZG.out e)
      rw [hll] at hlc
      rw [hll]
      clear h0 hlc hll
      go_enter Tryz.func22, Tryz.ntmps22
      go_wp2_with fail
      (with_reducible refine (COC.out _ ?_).mono ?_); (repeat (first | exact Below.refl _ _ | exact hB | refine Below.drew ?_ | refine below_drewN ?_ _ | refine bset ?_ (by simp <;> omega) _ | refine bal ?_ _))
      rintro e w1 ⟨rfl, hb1⟩
      have m0 : w1.cell? ⟨w.heap.size, 0, none⟩ = some (.slice a n c) := bkc hb1
      have zm0 := cell_lt m0
      have hB : Below w.heap.size w w1 := bthen (by repeat (first | exact Below.refl _ _ | exact hB | refine Below.drew ?_ | refine below_drewN ?_ _ | refine bset ?_ (by simp <;> omega) _ | refine bal ?_ _)) hb1
      have hz : w.heap.size ≤ w1.heap.size := hB.size
      go_wp2_with fail
      (with_reducible refine (COC.out _ ?_).mono ?_); (repeat (first | exact Below.refl _ _ | exact hB | refine Below.drew ?_ | refine below_drewN ?_ _ | refine bset ?_ (by simp <;> omega) _ | refine bal ?_ _))
      rintro e w2 ⟨rfl, hb2⟩
      have m0 : w2.cell? ⟨w.heap.size, 0, none⟩ = some (.slice a n c) := bkc hb2
      have zm0 := cell_lt m0
      have hB : Below w.heap.size w w2 := bthen (by repeat (first | exact Below.refl _ _ | exact hB | refine Below.drew ?_ | refine below_drewN ?_ _ | refine bset ?_ (by simp <;> omega) _ | refine bal ?_ _)) hb2
      have hz : w.heap.size ≤ w2.heap.size := hB.size
      have HM2 := Lib.hid (HM.out.keep hB)
      have HV2 := Lib.hid (HV.out.keep lims_int hB)
      obtain ⟨gb, go, rfl⟩ : ∃ gb go, a = some ⟨gb, go, none⟩ := by
        obtain ⟨gb, go, ra, rc, e, -⟩ := HM.out.rowAt (i := 0) (by rw [HN.out]; exact hnp)
        exact ⟨gb, go, e⟩
      have hB22 := Below.refl w2.heap.size w2
      clear COC hb1 hb2
      go_wp2
      go_loopw [6, 24] (fun v x wr => ∃ i : Nat, i ≤ n ∧ x = .int .i64 i ∧ Hid (OwnF IsInt 41 w2 wr v ((applyG g l).take i).length (fun t => ((applyG g l).take i).getD t 0))) (fun _ x _ => n - (intOf x).toNat)
      case atStart => exact ⟨0, Nat.zero_le _, rfl, Lib.hid (OwnF.nil _ _ _ hB22)⟩
      case round =>
        obtain ⟨i, hi, rfl, hF⟩ := hrel
        have hBr := hF.out.bel
        have hlt' : ((applyG g l).take i).length = i := by rw [List.length_take, HAL.out, HN.out]; omega
        have HLT := Lib.hid hlt'
        obtain ⟨fa, fc, hfv⟩ : ∃ a c, _ = Value.slice a i c := by obtain ⟨a, c, h, _⟩ := hF.out.view; rw [hlt'] at h; exact ⟨a, c, h⟩
        subst hfv
        clear hlt'
        by_cases hlt : i < n
        · have hltI : (i : Int) < (n : Int) := by omega
          have hig : i < g.length := by rw [HN.out]; exact hlt
          obtain ⟨gb2, go2, ra, rc, e2, hu, hp⟩ := (HM2.out.keep hBr).rowAt hig
          obtain ⟨rfl, rfl⟩ : gb = gb2 ∧ go = go2 := by simp at e2; exact e2
          have hrl := HRG.out i hig
          have hbj : ∀ t, Bd k ((g.getD i []).getD t 0) := fun t => HBD.out.1 i t
          have HAI := Lib.hid (HAP.out i hig)
          obtain ⟨row, hrow⟩ : ∃ r, g.getD i [] = r := ⟨_, rfl⟩
          rw [hrow] at hu hp hrl hbj HAI
          have DC := Lib.hid (fun W (q : Below wr.heap.size wr W) => dot_c (.slice ra row.length rc) (.slice la ll lc) row l k m W (hp.keep lims_int q) (by rw [← HLL.out]; exact (HV2.out.keep lims_int (bthen hBr q))) (by rw [hrl]; omega) (by rw [hrl, HLL.out, HLC.out]) hbj HBD.out.2 (by rw [hrl]; exact hk))
          have HTK := Lib.hid (take_getD (l := applyG g l) (k := i) 0 (by rw [HAL.out]; exact hig))
          rw [HAI.out] at HTK
          obtain ⟨z, hz⟩ : ∃ z, dotL row l = z := ⟨_, rfl⟩
          rw [hz] at DC HTK
          rw [hrl] at hu DC
          have zu := cell_lt hu
          have hBw := Below.refl wr.heap.size wr
          clear e2 hp hrow hbj hz hrl
          go_wp2_with fail
          (with_reducible refine (DC.out _ ?_).mono ?_); (repeat (first | exact Below.refl _ _ | exact hBw | refine Below.drew ?_ | refine below_drewN ?_ _ | refine bset ?_ (by simp <;> omega) _ | refine bal ?_ _))
          rintro e w5 ⟨⟨v5, rfl, hi5⟩, hb5⟩
          have hb5' : Below wr.heap.size wr w5 := bthen (by repeat (first | exact Below.refl _ _ | exact hBw | refine Below.drew ?_ | refine below_drewN ?_ _ | refine bset ?_ (by simp <;> omega) _ | refine bal ?_ _)) hb5
          have HF5 := Lib.hid (hF.out.below lims_int hb5')
          have HI5 := Lib.hid hi5
          obtain ⟨n5, a5, c5, l5, rfl, -⟩ := hi5
          unfold iv at *
          clear DC hu hF
          obtain ⟨L, hL⟩ : ∃ L, (applyG g l).take i = L := ⟨_, rfl⟩
          rw [hL] at HF5 HTK HLT
          have hLn : L.length + [z].length ≤ 1099511627776 := by rw [HLT.out]; simp; omega
          clear hL
          go_wp2_with (at_builtin; refine app_cat (l := [z]) (b := w5.heap.size + 1) (off := 0) (by rfl) (by rfl) (HF5.out.below lims_int (bal (bal (Below.refl _ _) _) _)) (fun k hk => by
            have hk0 : k = 0 := by simpa using hk
            subst hk0
            exact ⟨n5, a5, l5.length, c5, cell_new (by simp) rfl, cell_new (by simp) rfl, HI5.out.keep (bal (bal (Below.refl _ _) _) _)⟩) (by rfl) (by rfl) hLn ?_)
          intro v' w8 HO7
          have HF8 := Lib.hid (show OwnF IsInt 41 w2 w8 v' (L ++ [z]).length (fun t => (L ++ [z]).getD t 0) from by rw [List.length_append]; exact HO7.out)
          rw [← HTK.out] at HF8
          clear HO7
          go_wp2
          exact ⟨⟨i + 1, hlt, by go_num, HF8⟩, meas hlt (by go_num) rfl⟩
        · obtain rfl : i = n := by omega
          have HRO := Lib.hid (show RowO IsInt 41 w.heap.size wr _ (applyG g l) from (OwnF.rowO (w0 := w2) (by have h := hF.out; rw [List.take_of_length_le (by rw [HAL.out, HN.out]; exact Nat.le_refl _)] at h; exact h)).rebase hB.size)
          have hB5 := bthen hB hBr
          clear hF
          go_wp2
          refine bodyPost_ret (v := .tuple #[.slice fa i fc, .int .i64 0]) (by simp [results, Tryz.results22, go_sem, *]) rfl ⟨.inl ⟨HYES.out.1, by rw [← HYES.out.2, HLL.out], _, rfl, HRO.out⟩, hB5⟩
    · have hI2 : ((l.length : Int) != (cc : Int)) = true := by simp; omega
      have HNO := Lib.hid (show ¬ (cols g ≠ 0 ∧ l.length = cols g) from fun h => hlc (by rw [← HCC.out]; exact h.2))
      clear h0 hlc
      go_enter Tryz.func22, Tryz.ntmps22
      go_wp2_with fail
      (with_reducible refine (COC.out _ ?_).mono ?_); (repeat (first | exact Below.refl _ _ | exact hB | refine Below.drew ?_ | refine below_drewN ?_ _ | refine bset ?_ (by simp <;> omega) _ | refine bal ?_ _))
      rintro e w1 ⟨rfl, hb1⟩
      have m0 : w1.cell? ⟨w.heap.size, 0, none⟩ = some (.slice a n c) := bkc hb1
      have zm0 := cell_lt m0
      have hB : Below w.heap.size w w1 := bthen (by repeat (first | exact Below.refl _ _ | exact hB | refine Below.drew ?_ | refine below_drewN ?_ _ | refine bset ?_ (by simp <;> omega) _ | refine bal ?_ _)) hb1
      have hz : w.heap.size ≤ w1.heap.size := hB.size
      go_wp2_with fail
      (with_reducible refine (COC.out _ ?_).mono ?_); (repeat (first | exact Below.refl _ _ | exact hB | refine Below.drew ?_ | refine below_drewN ?_ _ | refine bset ?_ (by simp <;> omega) _ | refine bal ?_ _))
      rintro e w2 ⟨rfl, hb2⟩
      have m0 : w2.cell? ⟨w.heap.size, 0, none⟩ = some (.slice a n c) := bkc hb2
      have zm0 := cell_lt m0
      have hB : Below w.heap.size w w2 := bthen (by repeat (first | exact Below.refl _ _ | exact hB | refine Below.drew ?_ | refine below_drewN ?_ _ | refine bset ?_ (by simp <;> omega) _ | refine bal ?_ _)) hb2
      have hz : w.heap.size ≤ w2.heap.size := hB.size
      clear COC
      go_wp2
      refine bodyPost_ret (v := .tuple #[.slice none 0 0, .int .i64 5]) (by simp [results, Tryz.results22, go_sem, *]) rfl ⟨.inr ⟨HNO.out, rfl⟩, hB⟩
end Go.Proofs.YtkejdmdldhlkgaaGreatDoor

/- matrices, plain: the laws of sums and products. -/
namespace Go.Proofs.YtkejdmdldhlkgaaGreatDoor
open Num
set_option linter.unusedVariables false
set_option linter.unusedSimpArgs false
theorem isum_mulL (n : Nat) (f : Nat → Int) (c : Int) : Det.isum n (fun i => c * f i) = c * Det.isum n f := by
  induction n with
  | zero => show (0 : Int) = c * 0; rw [Int.mul_zero]
  | succ n ih => show Det.isum n _ + c * f n = c * (Det.isum n f + f n); rw [ih, Int.mul_add]
theorem times_len (g h : Grid) : (timesG g h).length = g.length := tab_len _ _ _
theorem times_cols {g h : Grid} (hg : 0 < g.length) : cols (timesG g h) = cols h := tab_cols _ hg
theorem times_rct (g h : Grid) : Rct (timesG g h) (cols h) := tab_rect _ _ _
/-- the sum of products, by places -/
theorem dotL_isum : ∀ (a b : List Int), a.length = b.length → dotL a b = Det.isum a.length fun t => a.getD t 0 * b.getD t 0 := by
  intro a b h
  have key : ∀ n, n ≤ a.length → dotL (a.take n) (b.take n) = Det.isum n fun t => a.getD t 0 * b.getD t 0 := by
    intro n
    induction n with
    | zero => intro _; rfl
    | succ n ih =>
      intro hn
      have e1 : a.take (n + 1) = a.take n ++ [a.getD n 0] := take_getD 0 (by omega)
      have e2 : b.take (n + 1) = b.take n ++ [b.getD n 0] := take_getD 0 (by omega)
      show dotL (a.take (n + 1)) (b.take (n + 1)) = Det.isum n _ + a.getD n 0 * b.getD n 0
      rw [e1, e2, ← ih (by omega)]
      unfold dotL
      rw [List.zipWith_append (by rw [List.length_take, List.length_take, h])]
      show sumL (_ ++ [a.getD n 0 * b.getD n 0]) = _
      rw [sumL_snoc]
  have := key a.length (Nat.le_refl _)
  rw [List.take_length, h, List.take_length] at this
  rw [h]; exact this
theorem app_len (g : Grid) (l : List Int) : (applyG g l).length = g.length := by simp [applyG]
theorem app_at {g : Grid} {l : List Int} {m i : Nat} (hr : Rct g m) (hl : l.length = m) (hi : i < g.length) : (applyG g l).getD i 0 = Det.isum m fun t => gat g i t * l.getD t 0 := by
  rw [app_get hi, dotL_isum _ _ (by rw [hr i hi, hl]), hr i hi]; rfl
end Go.Proofs.YtkejdmdldhlkgaaGreatDoor

/- matrix's laws: rows, made. -/
namespace Go.Proofs.YtkejdmdldhlkgaaGreatDoor
open Num
open Go.ChangeShapes Go.WideShapes Go.ChangeAt Go.RowKit
set_option linter.unusedVariables false
set_option linter.unusedSimpArgs false
attribute [local go_sem ↓] Go.wp_at_zero Go.wp_at_succ
end Go.Proofs.YtkejdmdldhlkgaaGreatDoor

