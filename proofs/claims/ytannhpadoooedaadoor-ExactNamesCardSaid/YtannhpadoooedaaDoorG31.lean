/- Texts of this seat, laid together: TxtJ, VwC. Each opens with its own remark, which says what it proves, and under which conditions. -/
import Derived.Test.YtannhpadoooedaaDoorG30
import Derived.Test.YtannhpadoooedaaDoorG06
import Derived.Maps.AppendAt
import Derived.Test.YtannhpadoooedaaDoorG28
import Derived.Test.YtannhpadoooedaaDoorG29
import Derived.Deep.DrawnRows
/- integer: Text. -/
namespace Go.Proofs.YtannhpadoooedaaDoor
open Num
open Go.ChangeShapes Go.WideShapes Go.ChangeAt Go.RowKit
set_option linter.unusedVariables false
set_option linter.unusedSimpArgs false
attribute [local go_sem] Oper.semAt_some

/-- the text so far: a variable in memory (block c), its bytes from block base on -/
structure OutS (c base : Nat) (av : Option Addr) (cap : Nat) (L : List UInt8) (W : World) : Prop where
  cell : W.cell? ⟨c, 0, none⟩ = some (.slice av L.length cap)
  free : W.frozen? ⟨c, 0, none⟩ = false
  own : W.ownsRow base 5 1 (.slice av L.length cap) L.length (Lib.byteCells L)
  lt : c < base
theorem own_soft {B base : Nat} {W W' : World} {v : Value} {n : Nat} {xs : List Value} (h : W.ownsRow base 5 1 v n xs) (s : Soft B W W') : W'.ownsRow base 5 1 v n xs := by
  refine ⟨h.1, ?_⟩
  rcases h.2 with hn | ⟨g, cap, cur, rfl, hb, hgg, rest⟩
  · exact .inl hn
  · exact .inr ⟨g, cap, cur, rfl, hb, s.cells _ _ hgg rfl, rest⟩
theorem own_put {base : Nat} {W : World} {v : Value} {n : Nat} {xs : List Value} (h : W.ownsRow base 5 1 v n xs) (p : Addr) (x : Value) (hp : p.block < base) : (W.setCell p x).ownsRow base 5 1 v n xs := by
  refine ⟨h.1, ?_⟩
  rcases h.2 with hn | ⟨g, cap, cur, rfl, hb, hgg, rest⟩
  · exact .inl hn
  · exact .inr ⟨g, cap, cur, rfl, hb, (Below.heap_setCell _ _ _ _ (by omega)).trans hgg, rest⟩
theorem own_shape {base : Nat} {W : World} {v : Value} {L : List UInt8} (h : W.ownsRow base 5 1 v L.length (Lib.byteCells L)) : ∃ a c, v = .slice a L.length c := by
  rcases h.2 with ⟨rfl, h1⟩ | ⟨g, cap, cur, rfl, _⟩
  · exact ⟨none, 0, by rw [h1]⟩
  · exact ⟨_, _, rfl⟩
theorem OutS.soft {c base B : Nat} {av : Option Addr} {cap : Nat} {L : List UInt8} {W W' : World} (h : OutS c base av cap L W) (s : Soft B W W') : OutS c base av cap L W' :=
  ⟨s.cell h.cell, s.frozen h.cell h.free, own_soft h.own s, h.lt⟩
theorem OutS.keep {c base : Nat} {av : Option Addr} {cap : Nat} {L : List UInt8} {W W' : World} (h : OutS c base av cap L W) (hb : Below W.heap.size W W') : OutS c base av cap L W' :=
  ⟨bkeep hb h.cell, bkeepf hb h.cell h.free, own_below (w0 := W) h.own hb, h.lt⟩
/-- what the append and the store behind it leave -/
theorem OutS.next {c base : Nat} {av : Option Addr} {cap : Nat} {L X : List UInt8} {W w' : World} {v' : Value} (h : OutS c base av cap L W) (o : Obj)
    (hown : w'.ownsRow base 5 1 v' (L ++ X).length (Lib.byteCells (L ++ X))) (hg : (W.alloc o).grownBy w' (Value.slice av L.length cap).ownBlock) :
    ∃ av' cap', v' = .slice av' (L ++ X).length cap' ∧ OutS c base av' cap' (L ++ X) (w'.setCell ⟨c, 0, none⟩ v') ∧ KeepsOthers W (w'.setCell ⟨c, 0, none⟩ v') ∧ w'.cell? ⟨c, 0, none⟩ = some (.slice av L.length cap) ∧ w'.frozen? ⟨c, 0, none⟩ = false := by
  obtain ⟨av', cap', rfl⟩ := own_shape hown
  have hne : some c ≠ (Value.slice av L.length cap).ownBlock := fun e => by
    have := (h.own.lt c e.symm).1
    have := h.lt
    omega
  have c0 : w'.cell? ⟨c, 0, none⟩ = some (.slice av L.length cap) := hg.cell (cell_alloc h.cell o) hne
  have cf : w'.frozen? ⟨c, 0, none⟩ = false := by
    rw [World.frozen?_of_block (hg.block c (by have := cell_lt h.cell; simp; omega) hne)]
    exact bkeepf (bal (Below.refl _ _) _) h.cell h.free
  refine ⟨av', cap', rfl, ⟨cell_here c0 _, by rw [World.frozen?_setCell]; exact cf, own_put hown _ _ h.lt, h.lt⟩, ?_, c0, cf⟩
  refine ((KeepsOthers.alloc W o).trans (KeepsOthers.of_grownBy hg ?_)).trans (KeepsOthers.setCell _ _ _)
  intro j o' hj ho'
  rcases (h.own.alloc o).2 with ⟨h0, _⟩ | ⟨g, cap2, cur, h0, hb, hgg, rest⟩
  · rw [h0] at hj; simp [Value.ownBlock] at hj
  · rw [h0] at hj; simp [Value.ownBlock] at hj
    subst hj
    rw [hgg] at ho'; cases ho'; rfl
theorem OutS.str {c base : Nat} {av : Option Addr} {cap : Nat} {L : List UInt8} {W : World} (h : OutS c base av cap L W) : (convert 131 9 (.slice av L.length cap)).run Tryd.prog W = .ok (.string ⟨L.toArray⟩) W := by
  rcases h.own.2 with ⟨h1, h2⟩ | ⟨g, cap2, cur, h1, hb, hgg, rest⟩
  · obtain rfl : L = [] := List.length_eq_zero_iff.1 h2
    cases h1
    exact run_convert_bytes_nil W 131 5 Tryd.underlying131 Tryd.underlying5 0 0 9 Tryd.underlying9
  · cases h1
    have ho := h.own
    refine run_convert_bytes_back W 131 9 5 ⟨g, 0, none⟩ cap L Tryd.underlying131 Tryd.underlying5 Tryd.underlying9 fun j hj => ?_
    have := World.ownsRow.cellAt ho j (by omega)
    rw [bcells_get L j hj] at this
    unfold Addr.add
    split
    · subst_vars; simpa [hj] using this
    · simpa [hj] using this
theorem dig_map (L : List Nat) (h : ∀ d ∈ L, d < 10) : L.map (fun x => dig (x % 10)) = L.map dig := List.map_congr_left fun x hx => by rw [Nat.mod_eq_of_lt (h x hx)]
theorem digL_len {l : List Nat} (hl : Limbs l) (h1 : l.length ≤ 67108865) : (digL (val l)).length ≤ 2147483680 := by
  have h2 := val_lt hl
  rw [BB_pow] at h2
  have h3 := lowD_len _ _ h2
  unfold digL
  split
  · simp
  · rw [List.length_reverse]; omega
/-- a number's text: its sign, its digits -/
theorem intTxt_eq (n : Bool) (V : Nat) (hn : n = true → 0 < V) : intTxt (sg n V) = (if n then [45] else []) ++ (digL V).map (fun x => dig (x % 10)) := by
  have hd := digL_txt V
  have e : natTxt V = (digL V).map dig := hd.1
  rw [dig_map _ hd.2, ← e]
  unfold intTxt
  rw [sg_abs]
  cases n with
  | true => rw [if_pos (by have := hn rfl; simp [sg]; omega)]; rfl
  | false => rw [if_neg (by simp [sg])]; rfl


set_option maxRecDepth 100000 in
set_option maxHeartbeats 8000000 in
theorem intText_c (vx : Value) (x : Int) (k : Nat) (w : World) (hx : IsInt w vx x) (bx : Bd k x) (hk : k ≤ 2147483648) :
    Calls Tryd.prog 46 #[vx] w fun e w' => e = .returned (.string ⟨(intTxt x).toArray⟩) ∧ Below w.heap.size w w' := by
  obtain ⟨n1, a1, c1, l1, rfl, u1, g1, s1, rfl⟩ := hx
  have k1 : l1.length ≤ 67108865 := by
    by_cases h0 : l1 = []
    · subst h0; simp
    · have h1 := nrm_val_pos g1 h0
      rw [BB_pow] at h1
      have h2 : 32 * (l1.length - 1) < k := (Nat.pow_lt_pow_iff_right (a := 2) (by omega)).1 (Nat.lt_of_le_of_lt h1 (sg_bd bx))
      omega
  have HE := Lib.hid (intTxt_eq n1 (val l1) (fun h => by
    have h1 := nrm_val_pos g1 (s1 h)
    have : 0 < BB ^ (l1.length - 1) := Nat.pow_pos BB_pos
    omega))
  have HDL := Lib.hid (digL_len u1.2.2.1 k1)
  have HDT := Lib.hid (digL_txt (val l1))
  clear bx s1
  unfold iv
  obtain ⟨i0, z0, hi0, hz0, hsize0, hby0, hzs0⟩ := el8.info
  refine calls_of_wp_marks Tryd.func46 rfl ?_
  simp only [Tryd.ntmps46, List.size_toArray, List.length_cons, List.length_nil, Nat.reduceAdd, Nat.reduceSub, Array.replicate_succ, Array.replicate_zero, List.push_toArray, List.append_toArray, List.nil_append, List.cons_append, Array.append_empty, Array.empty_append]
  cases n1 with
  | false =>
    go_wp2_with fail
    refine (limbDigits_c a1 c1 l1 _ (u1.keep (bal (bal (Below.refl _ _) _) _)) k1).mono ?_
    rintro e wD ⟨B, rfl, hstr, hbD⟩
    have hO : OutS (w.heap.size + 1) (w.heap.size + 2) none 0 [] wD := OutS.keep ⟨cell_new (by simp) rfl, by rw [World.frozen?_alloc_at (hn := by simp)], World.ownsRow_nil _ _ _ _, by omega⟩ hbD
    have hBD : Below w.heap.size w wD := bthen (bal (bal (Below.refl _ _) _) _) hbD
    have HE := Lib.hid (show intTxt (sg false (val l1)) = ([] : List UInt8) ++ (digL (val l1)).map (fun x => dig (x % 10)) from HE.out)
    have hszD := hbD.size
    have hsD : w.heap.size + 2 ≤ wD.heap.size := by have := cell_lt hO.cell; omega
    go_wp2
    refine wp_rangeK (gf := 110) (lb := #[.pointer (some ⟨B, 0, none⟩)]) (w0 := wD) (L := digL (val l1)) (N := (digL (val l1)).length) (Kp := KeepsWalks) (by simp [Act.eval]) (enters_of Tryd.func110 (by kernel_rfl) rfl)
      (encs := fun x : Nat => #[.int .i64 ((x % 10 : Nat) : Int)]) (digits_stops B _ 8 _ _ wD HDT.out hstr (Nat.le_refl _)) (fun h k => walksK_t h k) (fun W l o o' h1 h2 h3 h4 => walksK_b W l o o' h1 h2 h3 h4) (Below.refl _ _) (fun _ => rfl)
      (fun pre W => (∃ av cap, OutS (w.heap.size + 1) (w.heap.size + 2) av cap (([] : List UInt8) ++ pre.map (fun x => dig (x % 10))) W) ∧ Below w.heap.size w W ∧ wD.heap.size ≤ W.heap.size)
      (fun c pre W => False)
      ?_ ?_ ?_ ?_ ?_
      (fun T x a' W => a' = { tmps := (T.setIfInBounds 13 (.int .i64 ((x % 10 : Nat) : Int))).setIfInBounds 4 (.int .i64 ((x % 10 : Nat) : Int)), defers := [] } ∧ wD.heap.size ≤ W.heap.size)
      ?_ ?_ ?assign0 ?body0 ?done0 ?stop0
    case assign0 =>
      rintro l pre x W K hi hK
      generalize x % 10 = d at *
      gi_wp2
      exact hK _ _ (KeepsFrom.refl _ _) (KeepsWalks.refl _) hi ⟨by simp, hi.2.2⟩
    case body0 =>
      rintro l pre x a' w6 ⟨⟨av6, cap6, hO6⟩, hB6, hs6⟩ ⟨rfl, _⟩ hl
      have hlm : (([] : List UInt8) ++ pre.map (fun x => dig (x % 10))).length ≤ 2147483690 := by
        have := HDL.out
        simp
        omega
      have HLN := Lib.hid (show ([] : List UInt8) ++ (pre ++ [x]).map (fun x => dig (x % 10)) = (([] : List UInt8) ++ pre.map (fun x => dig (x % 10))) ++ [dig (x % 10)] by simp)
      have hd10 : x % 10 < 10 := Nat.mod_lt _ (by omega)
      generalize ([] : List UInt8) ++ pre.map (fun x => dig (x % 10)) = Lp at *
      obtain ⟨bb, hbb⟩ : ∃ bb, bb = dig (x % 10) := ⟨_, rfl⟩
      rw [← hbb] at HLN
      have hb1 : (48 : Int) + ((x % 10 : Nat) : Int) = (bb.toNat : Int) := by rw [hbb, dig_nat hd10]; omega
      have hb2 : (bb.toNat : Int) % 256 = (bb.toNat : Int) := by have := bb.toNat_lt; omega
      clear hbb
      generalize x % 10 = d at *
      have c0 := hO6.cell
      have cf := hO6.free
      have hsz6 := cell_lt c0
      simp only [List.setIfInBounds_toArray, List.set_cons_succ, List.set_cons_zero]
      gi_wp2_with (gi_at_builtin; refine wpListIn_append_own _ rfl _ _ 131 rfl (w.heap.size + 2) 5 i0 z0 1 1 el8.ht hi0 hz0 hsize0 hby0 hzs0 el8.pos (.slice av6 Lp.length cap6) Lp.length (Lib.byteCells Lp) rfl (hO6.own.alloc _) ⟨w6.heap.size, 0, none⟩ 1 1 [.int .u8 (bb.toNat : Int)] rfl rfl (cell_one_new _ _ _) ?_ ?_ ?_ ?_ ?_; (simp [Value.oneCell']); (unfold maxLen; omega); omega; (simp; omega); intro v' w7 hown hg _; obtain ⟨av7, cap7, rfl, hO7, hKO, c7, f7⟩ := OutS.next hO6 (X := [bb]) _ (by rw [bcells_app, List.length_append]; exact hown) hg)
      have hB7 : Below w.heap.size w w7 := (bal hB6 _).grown hg (by simp; omega) (fun k e => by have := (hO6.own.lt k e).1; omega)
      have e7 : (Lp ++ [bb]).length = Lp.length + 1 := by simp
      rw [e7] at hO7 hKO
      have hs7 := hg.size
      simp at hs7
      refine ⟨hKO.from _, hKO.walks, ⟨_, _, by rw [HLN.out]; exact hO7⟩, bset hB7 (by simp) _, by simp; omega⟩
    case done0 =>
      rintro D w8 hDs ⟨⟨av8, cap8, hO8⟩, hB8, hs8⟩ hK0
      rw [← HE.out] at hO8
      have c0 := hO8.cell
      have hst := hO8.str
      go_wp2
      refine ⟨by simp, .inl ⟨_, _, rfl, run_takeDeferred (b := D) (ds := []) hK0, ?_⟩⟩
      refine ⟨.string ⟨(intTxt (sg false (val l1))).toArray⟩, ?_, rfl, b_put hB8 (by omega) _⟩
      simp [results, Tryd.results46, go_sem]
    case stop0 => intro D c pre W _ _ h; cases h
    · rintro pre W W' ⟨⟨av, cap, h⟩, h2, h3⟩ s; exact ⟨⟨av, cap, h.soft s⟩, h2.trans (s.below.mono (by omega)), Nat.le_trans h3 s.below.size⟩
    · exact fun c pre W W' h s => h
    · exact fun pre W h => h.2.2
    · exact fun c pre W h => h.elim
    · exact ⟨⟨_, _, by simpa using hO⟩, hBD, Nat.le_refl _⟩
    · rintro x a' W W' ⟨rfl, h⟩ s; exact ⟨rfl, Nat.le_trans h s.below.size⟩
    · rintro x a' W ⟨rfl, h⟩; exact h
  | true =>
    have hO0 : OutS (w.heap.size + 1) (w.heap.size + 2) none 0 [] ((w.alloc (.cells #[.bool true, .slice a1 l1.length c1] 34)).alloc (.cells #[.slice none 0 0] 131)) := ⟨cell_new (by simp) rfl, by rw [World.frozen?_alloc_at (hn := by simp)], World.ownsRow_nil _ _ _ _, by omega⟩
    have x00 : (((w.alloc (.cells #[.bool true, .slice a1 l1.length c1] 34)).alloc (.cells #[.slice none 0 0] 131)).alloc (.cells #[.int .u8 45] 5)).cell? ⟨w.heap.size, 1, none⟩ = some (.slice a1 l1.length c1) := cell_alloc (cell_alloc (cell_new rfl rfl) _) _
    have hnw : ∀ j u, [Value.int .u8 45][j]? = some u → (((w.alloc (.cells #[.bool true, .slice a1 l1.length c1] 34)).alloc (.cells #[.slice none 0 0] 131)).alloc (.cells #[.int .u8 45] 5)).cell? ((⟨w.heap.size + 1 + 1, 0, none⟩ : Addr).add j) = some u := fun j u hj => by
      have h := cell_one_new ((w.alloc (.cells #[.bool true, .slice a1 l1.length c1] 34)).alloc (.cells #[.slice none 0 0] 131)) (.int .u8 45) 5 j u hj
      simpa using h
    go_wp2_with (at_builtin; go_loud (refine wpList_append_own _ rfl _ _ 131 rfl (w.heap.size + 2) 5 i0 z0 1 1 el8.ht hi0 hz0 hsize0 hby0 hzs0 el8.pos (.slice none 0 0) 0 [] rfl (World.ownsRow_nil _ _ _ _) ⟨w.heap.size + 1 + 1, 0, none⟩ 1 1 [.int .u8 45] rfl rfl hnw ?_ ?_ ?_ ?_ ?_; (simp [Value.oneCell']); (unfold maxLen; omega); omega; (simp); intro v' w7 hown hg _; obtain ⟨av7, cap7, rfl, hO7, hKO, c7, f7⟩ := OutS.next hO0 (X := [45]) _ hown hg; have x1 := hg.cell x00 (by simp [Value.ownBlock])))
    have hB7 : Below w.heap.size w w7 := (bal (bal (bal (Below.refl _ _) _) _) _).grown hg (by simp; omega) (fun k e => by simp [Value.ownBlock] at e)
    have hs7 := hg.size
    simp at hs7
    refine (limbDigits_c a1 c1 l1 _ (u1.keep (bset hB7 (by simp) _)) k1).mono ?_
    rintro e wD ⟨B, rfl, hstr, hbD⟩
    have hO := hO7.keep hbD
    have hBD : Below w.heap.size w wD := bthen (bset hB7 (by simp) _) hbD
    have HE := Lib.hid (show intTxt (sg true (val l1)) = ([45] : List UInt8) ++ (digL (val l1)).map (fun x => dig (x % 10)) from HE.out)
    have hszD := hbD.size
    have hsD : w.heap.size + 2 ≤ wD.heap.size := by have := cell_lt hO.cell; omega
    go_wp2
    refine wp_rangeK (gf := 110) (lb := #[.pointer (some ⟨B, 0, none⟩)]) (w0 := wD) (L := digL (val l1)) (N := (digL (val l1)).length) (Kp := KeepsWalks) (by simp [Act.eval]) (enters_of Tryd.func110 (by kernel_rfl) rfl)
      (encs := fun x : Nat => #[.int .i64 ((x % 10 : Nat) : Int)]) (digits_stops B _ 8 _ _ wD HDT.out hstr (Nat.le_refl _)) (fun h k => walksK_t h k) (fun W l o o' h1 h2 h3 h4 => walksK_b W l o o' h1 h2 h3 h4) (Below.refl _ _) (fun _ => rfl)
      (fun pre W => (∃ av cap, OutS (w.heap.size + 1) (w.heap.size + 2) av cap (([45] : List UInt8) ++ pre.map (fun x => dig (x % 10))) W) ∧ Below w.heap.size w W ∧ wD.heap.size ≤ W.heap.size)
      (fun c pre W => False)
      ?_ ?_ ?_ ?_ ?_
      (fun T x a' W => a' = { tmps := (T.setIfInBounds 13 (.int .i64 ((x % 10 : Nat) : Int))).setIfInBounds 4 (.int .i64 ((x % 10 : Nat) : Int)), defers := [] } ∧ wD.heap.size ≤ W.heap.size)
      ?_ ?_ ?assign0 ?body0 ?done0 ?stop0
    case assign0 =>
      rintro l pre x W K hi hK
      generalize x % 10 = d at *
      gi_wp2
      exact hK _ _ (KeepsFrom.refl _ _) (KeepsWalks.refl _) hi ⟨by simp, hi.2.2⟩
    case body0 =>
      rintro l pre x a' w6 ⟨⟨av6, cap6, hO6⟩, hB6, hs6⟩ ⟨rfl, _⟩ hl
      have hlm : (([45] : List UInt8) ++ pre.map (fun x => dig (x % 10))).length ≤ 2147483690 := by
        have := HDL.out
        simp
        omega
      have HLN := Lib.hid (show ([45] : List UInt8) ++ (pre ++ [x]).map (fun x => dig (x % 10)) = (([45] : List UInt8) ++ pre.map (fun x => dig (x % 10))) ++ [dig (x % 10)] by simp)
      have hd10 : x % 10 < 10 := Nat.mod_lt _ (by omega)
      generalize ([45] : List UInt8) ++ pre.map (fun x => dig (x % 10)) = Lp at *
      obtain ⟨bb, hbb⟩ : ∃ bb, bb = dig (x % 10) := ⟨_, rfl⟩
      rw [← hbb] at HLN
      have hb1 : (48 : Int) + ((x % 10 : Nat) : Int) = (bb.toNat : Int) := by rw [hbb, dig_nat hd10]; omega
      have hb2 : (bb.toNat : Int) % 256 = (bb.toNat : Int) := by have := bb.toNat_lt; omega
      clear hbb
      generalize x % 10 = d at *
      have c0 := hO6.cell
      have cf := hO6.free
      have hsz6 := cell_lt c0
      simp only [List.setIfInBounds_toArray, List.set_cons_succ, List.set_cons_zero]
      gi_wp2_with (gi_at_builtin; refine wpListIn_append_own _ rfl _ _ 131 rfl (w.heap.size + 2) 5 i0 z0 1 1 el8.ht hi0 hz0 hsize0 hby0 hzs0 el8.pos (.slice av6 Lp.length cap6) Lp.length (Lib.byteCells Lp) rfl (hO6.own.alloc _) ⟨w6.heap.size, 0, none⟩ 1 1 [.int .u8 (bb.toNat : Int)] rfl rfl (cell_one_new _ _ _) ?_ ?_ ?_ ?_ ?_; (simp [Value.oneCell']); (unfold maxLen; omega); omega; (simp; omega); intro v' w7 hown hg _; obtain ⟨av7, cap7, rfl, hO7, hKO, c7, f7⟩ := OutS.next hO6 (X := [bb]) _ (by rw [bcells_app, List.length_append]; exact hown) hg)
      have hB7 : Below w.heap.size w w7 := (bal hB6 _).grown hg (by simp; omega) (fun k e => by have := (hO6.own.lt k e).1; omega)
      have e7 : (Lp ++ [bb]).length = Lp.length + 1 := by simp
      rw [e7] at hO7 hKO
      have hs7 := hg.size
      simp at hs7
      refine ⟨hKO.from _, hKO.walks, ⟨_, _, by rw [HLN.out]; exact hO7⟩, bset hB7 (by simp) _, by simp; omega⟩
    case done0 =>
      rintro D w8 hDs ⟨⟨av8, cap8, hO8⟩, hB8, hs8⟩ hK0
      rw [← HE.out] at hO8
      have c0 := hO8.cell
      have hst := hO8.str
      go_wp2
      refine ⟨by simp, .inl ⟨_, _, rfl, run_takeDeferred (b := D) (ds := []) hK0, ?_⟩⟩
      refine ⟨.string ⟨(intTxt (sg true (val l1))).toArray⟩, ?_, rfl, b_put hB8 (by omega) _⟩
      simp [results, Tryd.results46, go_sem]
    case stop0 => intro D c pre W _ _ h; cases h
    · rintro pre W W' ⟨⟨av, cap, h⟩, h2, h3⟩ s; exact ⟨⟨av, cap, h.soft s⟩, h2.trans (s.below.mono (by omega)), Nat.le_trans h3 s.below.size⟩
    · exact fun c pre W W' h s => h
    · exact fun pre W h => h.2.2
    · exact fun c pre W h => h.elim
    · exact ⟨⟨_, _, by simpa using hO⟩, hBD, Nat.le_refl _⟩
    · rintro x a' W W' ⟨rfl, h⟩ s; exact ⟨rfl, Nat.le_trans h s.below.size⟩
    · rintro x a' W ⟨rfl, h⟩; exact h
end Go.Proofs.YtannhpadoooedaaDoor
/- vm's laws: are blocks of the program those of the reference? -/
namespace Go.Proofs.YtannhpadoooedaaDoor
open Num
open Go.ChangeShapes Go.WideShapes Go.ChangeAt Go.RowKit
set_option linter.unusedVariables false
set_option linter.unusedSimpArgs false
attribute [local go_sem ↓] Go.wp_at_zero Go.wp_at_succ
set_option maxRecDepth 100000 in
set_option maxHeartbeats 4000000 in
theorem same_c (vx vy : Value) (x : Int) (k : Nat) (w : World) (hx : IsInt w vx x) (hy : IsRef w vy x) (bx : Bd k x) (hk : k ≤ 1073741824) :
    Calls Tryd.prog 45 #[vx, vy] w fun e w' => e = .returned (.bool true) ∧ Below w.heap.size w w' := by
  have tx := fun W (h : Below w.heap.size w W) => intText_c vx x k W (hx.keep h) bx (by omega)
  have ty := fun W (h : Below w.heap.size w W) => rtext_c vy x k W (hy.keep h) bx hk
  obtain ⟨n1, a1, c1, l1, rfl, -⟩ := hx
  obtain ⟨n2, a2, c2, l2, rfl, -⟩ := hy
  unfold iv at *
  obtain ⟨s, hs⟩ : ∃ s : ByteArray, (⟨(intTxt x).toArray⟩ : ByteArray) = s := ⟨_, rfl⟩
  rw [hs] at tx ty
  have hss : (s.toList == s.toList) = true := beq_self_eq_true _
  clear hs bx
  have hB := Below.refl w.heap.size w
  go_enter Tryd.func45, Tryd.ntmps45
  go_wp2
  refine wp_name fun w0 hW0 => ?_
  have x0 : w0.cell? ⟨w.heap.size, 0, none⟩ = some (.bool n1) := by rw [hW0]; exact (by first | assumption | exact cell_new (by with_reducible first | rfl | (simp; done) | (simp; omega)) rfl | (repeat (first | assumption | exact cell_new (by with_reducible first | rfl | (simp; done) | (simp; omega)) rfl | refine cell_alloc ?_ _ | refine cell_drew ?_ | refine cell_drewN ?_ _ | refine cell_far ?_ (by simp) _ | (refine cell_far ?_ (by simp <;> omega) _))) | simp [go_sem, *])
  have zx0 := cell_lt x0
  have x1 : w0.cell? ⟨w.heap.size, 1, none⟩ = some (.slice a1 l1.length c1) := by rw [hW0]; exact (by first | assumption | exact cell_new (by with_reducible first | rfl | (simp; done) | (simp; omega)) rfl | (repeat (first | assumption | exact cell_new (by with_reducible first | rfl | (simp; done) | (simp; omega)) rfl | refine cell_alloc ?_ _ | refine cell_drew ?_ | refine cell_drewN ?_ _ | refine cell_far ?_ (by simp) _ | (refine cell_far ?_ (by simp <;> omega) _))) | simp [go_sem, *])
  have y0 : w0.cell? ⟨w.heap.size + 1, 0, none⟩ = some (.bool n2) := by rw [hW0]; exact (by first | assumption | exact cell_new (by with_reducible first | rfl | (simp; done) | (simp; omega)) rfl | (repeat (first | assumption | exact cell_new (by with_reducible first | rfl | (simp; done) | (simp; omega)) rfl | refine cell_alloc ?_ _ | refine cell_drew ?_ | refine cell_drewN ?_ _ | refine cell_far ?_ (by simp) _ | (refine cell_far ?_ (by simp <;> omega) _))) | simp [go_sem, *])
  have zy0 := cell_lt y0
  have y1 : w0.cell? ⟨w.heap.size + 1, 1, none⟩ = some (.slice a2 l2.length c2) := by rw [hW0]; exact (by first | assumption | exact cell_new (by with_reducible first | rfl | (simp; done) | (simp; omega)) rfl | (repeat (first | assumption | exact cell_new (by with_reducible first | rfl | (simp; done) | (simp; omega)) rfl | refine cell_alloc ?_ _ | refine cell_drew ?_ | refine cell_drewN ?_ _ | refine cell_far ?_ (by simp) _ | (refine cell_far ?_ (by simp <;> omega) _))) | simp [go_sem, *])
  have hB : Below w.heap.size w w0 := by rw [hW0]; repeat (first | exact Below.refl _ _ | exact hB | refine Below.drew ?_ | refine below_drewN ?_ _ | refine bset ?_ (by simp <;> omega) _ | refine bal ?_ _)
  have hz : w.heap.size ≤ w0.heap.size := hB.size
  clear hW0
  have HS := Lib.hid (show ∀ W, Below w0.heap.size w0 W → W.cell? ⟨w.heap.size, 0, none⟩ = some (.bool n1) ∧ W.cell? ⟨w.heap.size, 1, none⟩ = some (.slice a1 l1.length c1) ∧ W.cell? ⟨w.heap.size + 1, 0, none⟩ = some (.bool n2) ∧ W.cell? ⟨w.heap.size + 1, 1, none⟩ = some (.slice a2 l2.length c2) from fun W h => ⟨bkeep h x0, bkeep h x1, bkeep h y0, bkeep h y1⟩)
  have hB0 := Below.refl w0.heap.size w0
  have hBc := hB0
  go_region_held3 (fun w' => w'.cell? ⟨w.heap.size, 0, none⟩ = some (.bool n1) ∧ w'.cell? ⟨w.heap.size, 1, none⟩ = some (.slice a1 l1.length c1) ∧ w'.cell? ⟨w.heap.size + 1, 0, none⟩ = some (.bool n2) ∧ w'.cell? ⟨w.heap.size + 1, 1, none⟩ = some (.slice a2 l2.length c2))
    (first | (refine HS.out _ ?_; (repeat (first | exact Below.refl _ _ | exact hBc | refine Below.drew ?_ | refine below_drewN ?_ _ | refine bset ?_ (by simp <;> omega) _ | refine bal ?_ _)); done) | fail)
    (first
      | (go_at_call 46; refine (tx _ (bthen hB ?_)).mono ?_; (repeat (first | exact Below.refl _ _ | exact hBc | refine Below.drew ?_ | refine below_drewN ?_ _ | refine bset ?_ (by simp <;> omega) _ | refine bal ?_ _)); rintro e w5 ⟨rfl, hb5⟩; (have hBd : Below w0.heap.size w0 w5 := bthen (by repeat (first | exact Below.refl _ _ | exact hBc | refine Below.drew ?_ | refine below_drewN ?_ _ | refine bset ?_ (by simp <;> omega) _ | refine bal ?_ _)) hb5; clear hBc; have hBc := hBd; clear hBd))
      | (go_at_call 47; refine (ty _ (bthen hB ?_)).mono ?_; (repeat (first | exact Below.refl _ _ | exact hBc | refine Below.drew ?_ | refine below_drewN ?_ _ | refine bset ?_ (by simp <;> omega) _ | refine bal ?_ _)); rintro e w5 ⟨rfl, hb5⟩; (have hBd : Below w0.heap.size w0 w5 := bthen (by repeat (first | exact Below.refl _ _ | exact hBc | refine Below.drew ?_ | refine below_drewN ?_ _ | refine bset ?_ (by simp <;> omega) _ | refine bal ?_ _)) hb5; clear hBc; have hBc := hBd; clear hBd))
      | fail)
  all_goals
    go_wp2
    go_ret
    exact ⟨rfl, bthen hB hBc⟩
set_option maxRecDepth 100000 in
set_option maxHeartbeats 8000000 in
theorem eqNum_c (vl vw : Value) (l : List Int) (k : Nat) (w : World) (hx : PRow 0 w vl l) (hy : RRow 0 w vw l) (bx : ∀ j, Bd k (l.getD j 0)) (hk : k ≤ 1073741824) (hl : l.length ≤ 1099511627776) :
    Calls Tryd.prog 44 #[vl, vw, .func (.func 45) #[] #[]] w fun e w' => e = .returned (.bool true) ∧ Below w.heap.size w w' := by
  obtain ⟨a1, c1, rfl, -, v1⟩ := hx.view
  obtain ⟨a2, c2, rfl, -, v2⟩ := hy.view
  have H1 := Lib.hid v1
  have H2 := Lib.hid v2
  have HB := Lib.hid bx
  clear hx hy v1 v2 bx
  have hB := Below.refl w.heap.size w
  have hq : ((l.length : Int) != (l.length : Int)) = false := by simp
  go_enter Tryd.func44, Tryd.ntmps44
  go_wp2
  go_loopw [17] (fun x wr => ∃ j : Nat, j ≤ l.length ∧ x = .int .i64 j ∧ Below w.heap.size w wr) (fun x _ => l.length - (intOf x).toNat)
  case atStart => exact ⟨0, Nat.zero_le _, rfl, hB⟩
  case round =>
    obtain ⟨j, hj, rfl, hBr⟩ := hrel
    by_cases hlt : j < l.length
    · have hltI : (j : Int) < (l.length : Int) := by omega
      obtain ⟨b1, o1, n1, x1, l1, p1, rfl, k1, k2, i1⟩ := H1.out j hlt
      obtain ⟨b2, o2, n2, x2, l2, p2, rfl, m1, m2, i2⟩ := H2.out j hlt
      have cc := fun W (h : Below wr.heap.size wr W) => same_c _ _ _ k W (i1.keep (bthen hBr h)) (i2.keep (bthen hBr h)) (HB.out j) hk
      replace k1 := bkeep hBr k1
      replace k2 := bkeep hBr k2
      replace m1 := bkeep hBr m1
      replace m2 := bkeep hBr m2
      have z1 := cell_lt k1
      have z2 := cell_lt m1
      have z3 : b2 < wr.heap.size + 1 := by omega
      have z4 : b1 < wr.heap.size + 1 := by omega
      have hBw := Below.refl wr.heap.size wr
      clear i1 i2
      go_wp2_with fail
      refine (cc _ (by repeat (first | exact Below.refl _ _ | exact hBw | refine Below.drew ?_ | refine below_drewN ?_ _ | refine bset ?_ (by simp <;> omega) _ | refine bal ?_ _))).mono ?_
      rintro e w5 ⟨rfl, hb5⟩
      have hB5 : Below w.heap.size w w5 := bthen (bthen hBr (by repeat (first | exact Below.refl _ _ | exact hBw | refine Below.drew ?_ | refine below_drewN ?_ _ | refine bset ?_ (by simp <;> omega) _ | refine bal ?_ _))) hb5
      clear cc
      go_wp2
      exact ⟨⟨j + 1, by omega, by go_num, hB5⟩, by simp [intOf]; omega⟩
    · obtain rfl : j = l.length := by omega
      go_wp2
      go_ret
      exact ⟨rfl, hBr⟩
set_option maxRecDepth 100000 in
theorem block_c (vl vw : Value) (l : List Int) (k : Nat) (w : World) (hx : PRow 0 w vl l) (hy : RRow 0 w vw l) (bx : ∀ j, Bd k (l.getD j 0)) (hk : k ≤ 1073741824) (hl : l.length ≤ 1099511627776) :
    Calls Tryd.prog 22 #[vl, vw] w fun e w' => e = .returned (.bool true) ∧ Below w.heap.size w w' := by
  have hc := fun W (h : Below w.heap.size w W) => eqNum_c vl vw l k W (hx.keep lims_int h) (hy.keep lims_ref h) bx hk hl
  obtain ⟨a1, c1, rfl, -⟩ := hx
  obtain ⟨a2, c2, rfl, -⟩ := hy
  clear bx
  have hB := Below.refl w.heap.size w
  go_enter Tryd.func22, Tryd.ntmps22
  go_wp2_with fail
  refine (hc _ (by repeat (first | exact Below.refl _ _ | exact hB | refine Below.drew ?_ | refine below_drewN ?_ _ | refine bset ?_ (by simp <;> omega) _ | refine bal ?_ _))).mono ?_
  rintro e w5 ⟨rfl, hb5⟩
  clear hc
  go_wp2
  go_ret
  exact ⟨rfl, hb5⟩
set_option maxRecDepth 100000 in
set_option maxHeartbeats 8000000 in
theorem eqRow_c (vl vw : Value) (g : Grid) (k : Nat) (w : World) (hx : IsL 31 (PRow 0) 0 w vl g) (hy : IsL 57 (RRow 0) 0 w vw g) (bx : BdG k g) (hk : k ≤ 1073741824) (hg : g.length ≤ 8796093022208) (hl : ∀ j (hj : j < g.length), g[j].length ≤ 1099511627776) :
    Calls Tryd.prog 38 #[vl, vw, .func (.func 22) #[] #[]] w fun e w' => e = .returned (.bool true) ∧ Below w.heap.size w w' := by
  obtain ⟨a1, c1, rfl, -, v1⟩ := hx.view
  obtain ⟨a2, c2, rfl, -, v2⟩ := hy.view
  have H1 := Lib.hid v1
  have H2 := Lib.hid v2
  have HB := Lib.hid bx
  have HL := Lib.hid hl
  clear hx hy v1 v2 bx hl
  have hB := Below.refl w.heap.size w
  have hq : ((g.length : Int) != (g.length : Int)) = false := by simp
  go_enter Tryd.func38, Tryd.ntmps38
  go_wp2
  go_loopw [17] (fun x wr => ∃ j : Nat, j ≤ g.length ∧ x = .int .i64 j ∧ Below w.heap.size w wr) (fun x _ => g.length - (intOf x).toNat)
  case atStart => exact ⟨0, Nat.zero_le _, rfl, hB⟩
  case round =>
    obtain ⟨j, hj, rfl, hBr⟩ := hrel
    by_cases hlt : j < g.length
    · have hltI : (j : Int) < (g.length : Int) := by omega
      obtain ⟨b1, o1, u1, rfl, k1, i1⟩ := H1.out j hlt
      obtain ⟨b2, o2, u2, rfl, k2, i2⟩ := H2.out j hlt
      have cc := fun W (h : Below w.heap.size w W) => block_c _ _ _ k W (i1.keep lims_int h) (i2.keep lims_ref h) (by have := HB.out.row j; rwa [show g.getD j [] = g[j] by simp [hlt]] at this) hk (HL.out j hlt)
      obtain ⟨ya, yc, rfl, -⟩ := i1
      obtain ⟨za, zc, rfl, -⟩ := i2
      replace k1 := bkeep hBr k1
      replace k2 := bkeep hBr k2
      obtain ⟨n, hn⟩ : ∃ n, g[j].length = n := ⟨_, rfl⟩
      rw [hn] at k1 k2 cc
      clear hn
      go_wp2_with fail
      refine (cc _ hBr).mono ?_
      rintro e w5 ⟨rfl, hb5⟩
      have hB5 : Below w.heap.size w w5 := bthen hBr hb5
      clear cc
      go_wp2
      exact ⟨⟨j + 1, by omega, by go_num, hB5⟩, by simp [intOf]; omega⟩
    · obtain rfl : j = g.length := by omega
      go_wp2
      go_ret
      exact ⟨rfl, hBr⟩
set_option maxRecDepth 100000 in
theorem blocks_c (vl vw : Value) (g : Grid) (k : Nat) (w : World) (hx : IsL 31 (PRow 0) 0 w vl g) (hy : IsL 57 (RRow 0) 0 w vw g) (bx : BdG k g) (hk : k ≤ 1073741824) (hg : g.length ≤ 8796093022208) (hl : ∀ j (hj : j < g.length), g[j].length ≤ 1099511627776) :
    Calls Tryd.prog 14 #[vl, vw] w fun e w' => e = .returned (.bool true) ∧ Below w.heap.size w w' := by
  have hc := fun W (h : Below w.heap.size w W) => eqRow_c vl vw g k W (hx.keep (prs_row lims_int _ _) h) (hy.keep (prs_row lims_ref _ _) h) bx hk hg hl
  obtain ⟨a1, c1, rfl, -⟩ := hx
  obtain ⟨a2, c2, rfl, -⟩ := hy
  clear bx
  have hB := Below.refl w.heap.size w
  go_enter Tryd.func14, Tryd.ntmps14
  go_wp2_with fail
  refine (hc _ (by repeat (first | exact Below.refl _ _ | exact hB | refine Below.drew ?_ | refine below_drewN ?_ _ | refine bset ?_ (by simp <;> omega) _ | refine bal ?_ _))).mono ?_
  rintro e w5 ⟨rfl, hb5⟩
  clear hc
  go_wp2
  go_ret
  exact ⟨rfl, hb5⟩
end Go.Proofs.YtannhpadoooedaaDoor
