/- Texts of this seat, laid together: TxtJ, Ints, Row, RefS, RefO, RefQ. Each opens with its own remark, which says what it proves, and under which conditions. -/
import Derived.Test.YthlphfjmdgcpdaaGreatDoorW10
import Derived.Test.YthlphfjmdgcpdaaGreatDoorW02
import Derived.Maps.AppendAt
import Derived.Test.YthlphfjmdgcpdaaGreatDoorW03
import Derived.Test.YthlphfjmdgcpdaaGreatDoorW09
import Derived.Test.YthlphfjmdgcpdaaGreatDoorW06
import Derived.Test.YthlphfjmdgcpdaaGreatDoorW07
import Derived.Deep.DeepCutAuto
import Derived.Deep.RegionLaw
set_option linter.unusedVariables false
set_option linter.unusedSimpArgs false
/- integer: Text. -/
namespace Go.Proofs.YthlphfjmdgcpdaaGreatDoor
open Num
open Go.ChangeShapes Go.WideShapes Go.ChangeAt Go.RowKit
set_option linter.unusedVariables false
set_option linter.unusedSimpArgs false
attribute [local go_sem] Oper.semAt_some

/-- the text so far: a variable in memory (block c), its bytes from block base on -/
structure OutS (c base : Nat) (av : Option Addr) (cap : Nat) (L : List UInt8) (W : World) : Prop where
  cell : W.cell? ⟨c, 0, none⟩ = some (.slice av L.length cap)
  free : W.frozen? ⟨c, 0, none⟩ = false
  own : W.ownsRow base 5 1 (.slice av L.length cap) L.length (Lib.byteCells L)
  lt : c < base
theorem own_soft {B base : Nat} {W W' : World} {v : Value} {n : Nat} {xs : List Value} (h : W.ownsRow base 5 1 v n xs) (s : Soft B W W') : W'.ownsRow base 5 1 v n xs := by
  refine ⟨h.1, ?_⟩
  rcases h.2 with hn | ⟨g, cap, cur, rfl, hb, hgg, rest⟩
  · exact .inl hn
  · exact .inr ⟨g, cap, cur, rfl, hb, s.cells _ _ hgg rfl, rest⟩
theorem own_put {base : Nat} {W : World} {v : Value} {n : Nat} {xs : List Value} (h : W.ownsRow base 5 1 v n xs) (p : Addr) (x : Value) (hp : p.block < base) : (W.setCell p x).ownsRow base 5 1 v n xs := by
  refine ⟨h.1, ?_⟩
  rcases h.2 with hn | ⟨g, cap, cur, rfl, hb, hgg, rest⟩
  · exact .inl hn
  · exact .inr ⟨g, cap, cur, rfl, hb, (Below.heap_setCell _ _ _ _ (by omega)).trans hgg, rest⟩
theorem own_shape {base : Nat} {W : World} {v : Value} {L : List UInt8} (h : W.ownsRow base 5 1 v L.length (Lib.byteCells L)) : ∃ a c, v = .slice a L.length c := by
  rcases h.2 with ⟨rfl, h1⟩ | ⟨g, cap, cur, rfl, _⟩
  · exact ⟨none, 0, by rw [h1]⟩
  · exact ⟨_, _, rfl⟩
theorem OutS.soft {c base B : Nat} {av : Option Addr} {cap : Nat} {L : List UInt8} {W W' : World} (h : OutS c base av cap L W) (s : Soft B W W') : OutS c base av cap L W' :=
  ⟨s.cell h.cell, s.frozen h.cell h.free, own_soft h.own s, h.lt⟩
theorem OutS.keep {c base : Nat} {av : Option Addr} {cap : Nat} {L : List UInt8} {W W' : World} (h : OutS c base av cap L W) (hb : Below W.heap.size W W') : OutS c base av cap L W' :=
  ⟨bkeep hb h.cell, bkeepf hb h.cell h.free, own_below (w0 := W) h.own hb, h.lt⟩
/-- what the append and the store behind it leave -/
theorem OutS.next {c base : Nat} {av : Option Addr} {cap : Nat} {L X : List UInt8} {W w' : World} {v' : Value} (h : OutS c base av cap L W) (o : Obj)
    (hown : w'.ownsRow base 5 1 v' (L ++ X).length (Lib.byteCells (L ++ X))) (hg : (W.alloc o).grownBy w' (Value.slice av L.length cap).ownBlock) :
    ∃ av' cap', v' = .slice av' (L ++ X).length cap' ∧ OutS c base av' cap' (L ++ X) (w'.setCell ⟨c, 0, none⟩ v') ∧ KeepsOthers W (w'.setCell ⟨c, 0, none⟩ v') ∧ w'.cell? ⟨c, 0, none⟩ = some (.slice av L.length cap) ∧ w'.frozen? ⟨c, 0, none⟩ = false := by
  obtain ⟨av', cap', rfl⟩ := own_shape hown
  have hne : some c ≠ (Value.slice av L.length cap).ownBlock := fun e => by
    have := (h.own.lt c e.symm).1
    have := h.lt
    omega
  have c0 : w'.cell? ⟨c, 0, none⟩ = some (.slice av L.length cap) := hg.cell (cell_alloc h.cell o) hne
  have cf : w'.frozen? ⟨c, 0, none⟩ = false := by
    rw [World.frozen?_of_block (hg.block c (by have := cell_lt h.cell; simp; omega) hne)]
    exact bkeepf (bal (Below.refl _ _) _) h.cell h.free
  refine ⟨av', cap', rfl, ⟨cell_here c0 _, by rw [World.frozen?_setCell]; exact cf, own_put hown _ _ h.lt, h.lt⟩, ?_, c0, cf⟩
  refine ((KeepsOthers.alloc W o).trans (KeepsOthers.of_grownBy hg ?_)).trans (KeepsOthers.setCell _ _ _)
  intro j o' hj ho'
  rcases (h.own.alloc o).2 with ⟨h0, _⟩ | ⟨g, cap2, cur, h0, hb, hgg, rest⟩
  · rw [h0] at hj; simp [Value.ownBlock] at hj
  · rw [h0] at hj; simp [Value.ownBlock] at hj
    subst hj
    rw [hgg] at ho'; cases ho'; rfl
theorem OutS.str {c base : Nat} {av : Option Addr} {cap : Nat} {L : List UInt8} {W : World} (h : OutS c base av cap L W) : (convert 147 9 (.slice av L.length cap)).run Tryz.prog W = .ok (.string ⟨L.toArray⟩) W := by
  rcases h.own.2 with ⟨h1, h2⟩ | ⟨g, cap2, cur, h1, hb, hgg, rest⟩
  · obtain rfl : L = [] := List.length_eq_zero_iff.1 h2
    cases h1
    exact run_convert_bytes_nil W 147 5 Tryz.underlying147 Tryz.underlying5 0 0 9 Tryz.underlying9
  · cases h1
    have ho := h.own
    refine run_convert_bytes_back W 147 9 5 ⟨g, 0, none⟩ cap L Tryz.underlying147 Tryz.underlying5 Tryz.underlying9 fun j hj => ?_
    have := World.ownsRow.cellAt ho j (by omega)
    rw [bcells_get L j hj] at this
    unfold Addr.add
    split
    · subst_vars; simpa [hj] using this
    · simpa [hj] using this
theorem dig_map (L : List Nat) (h : ∀ d ∈ L, d < 10) : L.map (fun x => dig (x % 10)) = L.map dig := List.map_congr_left fun x hx => by rw [Nat.mod_eq_of_lt (h x hx)]
theorem digL_len {l : List Nat} (hl : Limbs l) (h1 : l.length ≤ 67108865) : (digL (val l)).length ≤ 2147483680 := by
  have h2 := val_lt hl
  rw [BB_pow] at h2
  have h3 := lowD_len _ _ h2
  unfold digL
  split
  · simp
  · rw [List.length_reverse]; omega
/-- a number's text: its sign, its digits -/
theorem intTxt_eq (n : Bool) (V : Nat) (hn : n = true → 0 < V) : intTxt (sg n V) = (if n then [45] else []) ++ (digL V).map (fun x => dig (x % 10)) := by
  have hd := digL_txt V
  have e : natTxt V = (digL V).map dig := hd.1
  rw [dig_map _ hd.2, ← e]
  unfold intTxt
  rw [sg_abs]
  cases n with
  | true => rw [if_pos (by have := hn rfl; simp [sg]; omega)]; rfl
  | false => rw [if_neg (by simp [sg])]; rfl


set_option maxRecDepth 100000 in
set_option maxHeartbeats 8000000 in
theorem intText_c (vx : Value) (x : Int) (k : Nat) (w : World) (hx : IsInt w vx x) (bx : Bd k x) (hk : k ≤ 2147483648) :
    Calls Tryz.prog 49 #[vx] w fun e w' => e = .returned (.string ⟨(intTxt x).toArray⟩) ∧ Below w.heap.size w w' := by
  obtain ⟨n1, a1, c1, l1, rfl, u1, g1, s1, rfl⟩ := hx
  have k1 : l1.length ≤ 67108865 := by
    by_cases h0 : l1 = []
    · subst h0; simp
    · have h1 := nrm_val_pos g1 h0
      rw [BB_pow] at h1
      have h2 : 32 * (l1.length - 1) < k := (Nat.pow_lt_pow_iff_right (a := 2) (by omega)).1 (Nat.lt_of_le_of_lt h1 (sg_bd bx))
      omega
  have HE := Lib.hid (intTxt_eq n1 (val l1) (fun h => by
    have h1 := nrm_val_pos g1 (s1 h)
    have : 0 < BB ^ (l1.length - 1) := Nat.pow_pos BB_pos
    omega))
  have HDL := Lib.hid (digL_len u1.2.2.1 k1)
  have HDT := Lib.hid (digL_txt (val l1))
  clear bx s1
  unfold iv
  obtain ⟨i0, z0, hi0, hz0, hsize0, hby0, hzs0⟩ := el8.info
  refine calls_of_wp_marks Tryz.func49 rfl ?_
  simp only [Tryz.ntmps49, List.size_toArray, List.length_cons, List.length_nil, Nat.reduceAdd, Nat.reduceSub, Array.replicate_succ, Array.replicate_zero, List.push_toArray, List.append_toArray, List.nil_append, List.cons_append, Array.append_empty, Array.empty_append]
  cases n1 with
  | false =>
    go_wp2_with fail
    refine (limbDigits_c a1 c1 l1 _ (u1.keep (bal (bal (Below.refl _ _) _) _)) k1).mono ?_
    rintro e wD ⟨B, rfl, hstr, hbD⟩
    have hO : OutS (w.heap.size + 1) (w.heap.size + 2) none 0 [] wD := OutS.keep ⟨cell_new (by simp) rfl, by rw [World.frozen?_alloc_at (hn := by simp)], World.ownsRow_nil _ _ _ _, by omega⟩ hbD
    have hBD : Below w.heap.size w wD := bthen (bal (bal (Below.refl _ _) _) _) hbD
    have HE := Lib.hid (show intTxt (sg false (val l1)) = ([] : List UInt8) ++ (digL (val l1)).map (fun x => dig (x % 10)) from HE.out)
    have hszD := hbD.size
    have hsD : w.heap.size + 2 ≤ wD.heap.size := by have := cell_lt hO.cell; omega
    go_wp2
    refine wp_rangeK (gf := 137) (lb := #[.pointer (some ⟨B, 0, none⟩)]) (w0 := wD) (L := digL (val l1)) (N := (digL (val l1)).length) (Kp := KeepsWalks) (by simp [Act.eval]) (enters_of Tryz.func137 (by kernel_rfl) rfl)
      (encs := fun x : Nat => #[.int .i64 ((x % 10 : Nat) : Int)]) (digits_stops B _ 8 _ _ wD HDT.out hstr (Nat.le_refl _)) (fun h k => walksK_t h k) (fun W l o o' h1 h2 h3 h4 => walksK_b W l o o' h1 h2 h3 h4) (Below.refl _ _) (fun _ => rfl)
      (fun pre W => (∃ av cap, OutS (w.heap.size + 1) (w.heap.size + 2) av cap (([] : List UInt8) ++ pre.map (fun x => dig (x % 10))) W) ∧ Below w.heap.size w W ∧ wD.heap.size ≤ W.heap.size)
      (fun c pre W => False)
      ?_ ?_ ?_ ?_ ?_
      (fun T x a' W => a' = { tmps := (T.setIfInBounds 13 (.int .i64 ((x % 10 : Nat) : Int))).setIfInBounds 4 (.int .i64 ((x % 10 : Nat) : Int)), defers := [] } ∧ wD.heap.size ≤ W.heap.size)
      ?_ ?_ ?assign0 ?body0 ?done0 ?stop0
    case assign0 =>
      rintro l pre x W K hi hK
      generalize x % 10 = d at *
      gi_wp2
      exact hK _ _ (KeepsFrom.refl _ _) (KeepsWalks.refl _) hi ⟨by simp, hi.2.2⟩
    case body0 =>
      rintro l pre x a' w6 ⟨⟨av6, cap6, hO6⟩, hB6, hs6⟩ ⟨rfl, _⟩ hl
      have hlm : (([] : List UInt8) ++ pre.map (fun x => dig (x % 10))).length ≤ 2147483690 := by
        have := HDL.out
        simp
        omega
      have HLN := Lib.hid (show ([] : List UInt8) ++ (pre ++ [x]).map (fun x => dig (x % 10)) = (([] : List UInt8) ++ pre.map (fun x => dig (x % 10))) ++ [dig (x % 10)] by simp)
      have hd10 : x % 10 < 10 := Nat.mod_lt _ (by omega)
      generalize ([] : List UInt8) ++ pre.map (fun x => dig (x % 10)) = Lp at *
      obtain ⟨bb, hbb⟩ : ∃ bb, bb = dig (x % 10) := ⟨_, rfl⟩
      rw [← hbb] at HLN
      have hb1 : (48 : Int) + ((x % 10 : Nat) : Int) = (bb.toNat : Int) := by rw [hbb, dig_nat hd10]; omega
      have hb2 : (bb.toNat : Int) % 256 = (bb.toNat : Int) := by have := bb.toNat_lt; omega
      clear hbb
      generalize x % 10 = d at *
      have c0 := hO6.cell
      have cf := hO6.free
      have hsz6 := cell_lt c0
      simp only [List.setIfInBounds_toArray, List.set_cons_succ, List.set_cons_zero]
      gi_wp2_with (gi_at_builtin; refine wpListIn_append_own _ rfl _ _ 147 rfl (w.heap.size + 2) 5 i0 z0 1 1 el8.ht hi0 hz0 hsize0 hby0 hzs0 el8.pos (.slice av6 Lp.length cap6) Lp.length (Lib.byteCells Lp) rfl (hO6.own.alloc _) ⟨w6.heap.size, 0, none⟩ 1 1 [.int .u8 (bb.toNat : Int)] rfl rfl (cell_one_new _ _ _) ?_ ?_ ?_ ?_ ?_; (simp [Value.oneCell']); (unfold maxLen; omega); omega; (simp; omega); intro v' w7 hown hg _; obtain ⟨av7, cap7, rfl, hO7, hKO, c7, f7⟩ := OutS.next hO6 (X := [bb]) _ (by rw [bcells_app, List.length_append]; exact hown) hg)
      have hB7 : Below w.heap.size w w7 := (bal hB6 _).grown hg (by simp; omega) (fun k e => by have := (hO6.own.lt k e).1; omega)
      have e7 : (Lp ++ [bb]).length = Lp.length + 1 := by simp
      rw [e7] at hO7 hKO
      have hs7 := hg.size
      simp at hs7
      refine ⟨hKO.from _, hKO.walks, ⟨_, _, by rw [HLN.out]; exact hO7⟩, bset hB7 (by simp) _, by simp; omega⟩
    case done0 =>
      rintro D w8 hDs ⟨⟨av8, cap8, hO8⟩, hB8, hs8⟩ hK0
      rw [← HE.out] at hO8
      have c0 := hO8.cell
      have hst := hO8.str
      go_wp2
      refine ⟨by simp, .inl ⟨_, _, rfl, run_takeDeferred (b := D) (ds := []) hK0, ?_⟩⟩
      refine ⟨.string ⟨(intTxt (sg false (val l1))).toArray⟩, ?_, rfl, b_put hB8 (by omega) _⟩
      simp [results, Tryz.results49, go_sem]
    case stop0 => intro D c pre W _ _ h; cases h
    · rintro pre W W' ⟨⟨av, cap, h⟩, h2, h3⟩ s; exact ⟨⟨av, cap, h.soft s⟩, h2.trans (s.below.mono (by omega)), Nat.le_trans h3 s.below.size⟩
    · exact fun c pre W W' h s => h
    · exact fun pre W h => h.2.2
    · exact fun c pre W h => h.elim
    · exact ⟨⟨_, _, by simpa using hO⟩, hBD, Nat.le_refl _⟩
    · rintro x a' W W' ⟨rfl, h⟩ s; exact ⟨rfl, Nat.le_trans h s.below.size⟩
    · rintro x a' W ⟨rfl, h⟩; exact h
  | true =>
    have hO0 : OutS (w.heap.size + 1) (w.heap.size + 2) none 0 [] ((w.alloc (.cells #[.bool true, .slice a1 l1.length c1] 36)).alloc (.cells #[.slice none 0 0] 147)) := ⟨cell_new (by simp) rfl, by rw [World.frozen?_alloc_at (hn := by simp)], World.ownsRow_nil _ _ _ _, by omega⟩
    have x00 : (((w.alloc (.cells #[.bool true, .slice a1 l1.length c1] 36)).alloc (.cells #[.slice none 0 0] 147)).alloc (.cells #[.int .u8 45] 5)).cell? ⟨w.heap.size, 1, none⟩ = some (.slice a1 l1.length c1) := cell_alloc (cell_alloc (cell_new rfl rfl) _) _
    have hnw : ∀ j u, [Value.int .u8 45][j]? = some u → (((w.alloc (.cells #[.bool true, .slice a1 l1.length c1] 36)).alloc (.cells #[.slice none 0 0] 147)).alloc (.cells #[.int .u8 45] 5)).cell? ((⟨w.heap.size + 1 + 1, 0, none⟩ : Addr).add j) = some u := fun j u hj => by
      have h := cell_one_new ((w.alloc (.cells #[.bool true, .slice a1 l1.length c1] 36)).alloc (.cells #[.slice none 0 0] 147)) (.int .u8 45) 5 j u hj
      simpa using h
    go_wp2_with (at_builtin; go_loud (refine wpList_append_own _ rfl _ _ 147 rfl (w.heap.size + 2) 5 i0 z0 1 1 el8.ht hi0 hz0 hsize0 hby0 hzs0 el8.pos (.slice none 0 0) 0 [] rfl (World.ownsRow_nil _ _ _ _) ⟨w.heap.size + 1 + 1, 0, none⟩ 1 1 [.int .u8 45] rfl rfl hnw ?_ ?_ ?_ ?_ ?_; (simp [Value.oneCell']); (unfold maxLen; omega); omega; (simp); intro v' w7 hown hg _; obtain ⟨av7, cap7, rfl, hO7, hKO, c7, f7⟩ := OutS.next hO0 (X := [45]) _ hown hg; have x1 := hg.cell x00 (by simp [Value.ownBlock])))
    have hB7 : Below w.heap.size w w7 := (bal (bal (bal (Below.refl _ _) _) _) _).grown hg (by simp; omega) (fun k e => by simp [Value.ownBlock] at e)
    have hs7 := hg.size
    simp at hs7
    refine (limbDigits_c a1 c1 l1 _ (u1.keep (bset hB7 (by simp) _)) k1).mono ?_
    rintro e wD ⟨B, rfl, hstr, hbD⟩
    have hO := hO7.keep hbD
    have hBD : Below w.heap.size w wD := bthen (bset hB7 (by simp) _) hbD
    have HE := Lib.hid (show intTxt (sg true (val l1)) = ([45] : List UInt8) ++ (digL (val l1)).map (fun x => dig (x % 10)) from HE.out)
    have hszD := hbD.size
    have hsD : w.heap.size + 2 ≤ wD.heap.size := by have := cell_lt hO.cell; omega
    go_wp2
    refine wp_rangeK (gf := 137) (lb := #[.pointer (some ⟨B, 0, none⟩)]) (w0 := wD) (L := digL (val l1)) (N := (digL (val l1)).length) (Kp := KeepsWalks) (by simp [Act.eval]) (enters_of Tryz.func137 (by kernel_rfl) rfl)
      (encs := fun x : Nat => #[.int .i64 ((x % 10 : Nat) : Int)]) (digits_stops B _ 8 _ _ wD HDT.out hstr (Nat.le_refl _)) (fun h k => walksK_t h k) (fun W l o o' h1 h2 h3 h4 => walksK_b W l o o' h1 h2 h3 h4) (Below.refl _ _) (fun _ => rfl)
      (fun pre W => (∃ av cap, OutS (w.heap.size + 1) (w.heap.size + 2) av cap (([45] : List UInt8) ++ pre.map (fun x => dig (x % 10))) W) ∧ Below w.heap.size w W ∧ wD.heap.size ≤ W.heap.size)
      (fun c pre W => False)
      ?_ ?_ ?_ ?_ ?_
      (fun T x a' W => a' = { tmps := (T.setIfInBounds 13 (.int .i64 ((x % 10 : Nat) : Int))).setIfInBounds 4 (.int .i64 ((x % 10 : Nat) : Int)), defers := [] } ∧ wD.heap.size ≤ W.heap.size)
      ?_ ?_ ?assign0 ?body0 ?done0 ?stop0
    case assign0 =>
      rintro l pre x W K hi hK
      generalize x % 10 = d at *
      gi_wp2
      exact hK _ _ (KeepsFrom.refl _ _) (KeepsWalks.refl _) hi ⟨by simp, hi.2.2⟩
    case body0 =>
      rintro l pre x a' w6 ⟨⟨av6, cap6, hO6⟩, hB6, hs6⟩ ⟨rfl, _⟩ hl
      have hlm : (([45] : List UInt8) ++ pre.map (fun x => dig (x % 10))).length ≤ 2147483690 := by
        have := HDL.out
        simp
        omega
      have HLN := Lib.hid (show ([45] : List UInt8) ++ (pre ++ [x]).map (fun x => dig (x % 10)) = (([45] : List UInt8) ++ pre.map (fun x => dig (x % 10))) ++ [dig (x % 10)] by simp)
      have hd10 : x % 10 < 10 := Nat.mod_lt _ (by omega)
      generalize ([45] : List UInt8) ++ pre.map (fun x => dig (x % 10)) = Lp at *
      obtain ⟨bb, hbb⟩ : ∃ bb, bb = dig (x % 10) := ⟨_, rfl⟩
      rw [← hbb] at HLN
      have hb1 : (48 : Int) + ((x % 10 : Nat) : Int) = (bb.toNat : Int) := by rw [hbb, dig_nat hd10]; omega
      have hb2 : (bb.toNat : Int) % 256 = (bb.toNat : Int) := by have := bb.toNat_lt; omega
      clear hbb
      generalize x % 10 = d at *
      have c0 := hO6.cell
      have cf := hO6.free
      have hsz6 := cell_lt c0
      simp only [List.setIfInBounds_toArray, List.set_cons_succ, List.set_cons_zero]
      gi_wp2_with (gi_at_builtin; refine wpListIn_append_own _ rfl _ _ 147 rfl (w.heap.size + 2) 5 i0 z0 1 1 el8.ht hi0 hz0 hsize0 hby0 hzs0 el8.pos (.slice av6 Lp.length cap6) Lp.length (Lib.byteCells Lp) rfl (hO6.own.alloc _) ⟨w6.heap.size, 0, none⟩ 1 1 [.int .u8 (bb.toNat : Int)] rfl rfl (cell_one_new _ _ _) ?_ ?_ ?_ ?_ ?_; (simp [Value.oneCell']); (unfold maxLen; omega); omega; (simp; omega); intro v' w7 hown hg _; obtain ⟨av7, cap7, rfl, hO7, hKO, c7, f7⟩ := OutS.next hO6 (X := [bb]) _ (by rw [bcells_app, List.length_append]; exact hown) hg)
      have hB7 : Below w.heap.size w w7 := (bal hB6 _).grown hg (by simp; omega) (fun k e => by have := (hO6.own.lt k e).1; omega)
      have e7 : (Lp ++ [bb]).length = Lp.length + 1 := by simp
      rw [e7] at hO7 hKO
      have hs7 := hg.size
      simp at hs7
      refine ⟨hKO.from _, hKO.walks, ⟨_, _, by rw [HLN.out]; exact hO7⟩, bset hB7 (by simp) _, by simp; omega⟩
    case done0 =>
      rintro D w8 hDs ⟨⟨av8, cap8, hO8⟩, hB8, hs8⟩ hK0
      rw [← HE.out] at hO8
      have c0 := hO8.cell
      have hst := hO8.str
      go_wp2
      refine ⟨by simp, .inl ⟨_, _, rfl, run_takeDeferred (b := D) (ds := []) hK0, ?_⟩⟩
      refine ⟨.string ⟨(intTxt (sg true (val l1))).toArray⟩, ?_, rfl, b_put hB8 (by omega) _⟩
      simp [results, Tryz.results49, go_sem]
    case stop0 => intro D c pre W _ _ h; cases h
    · rintro pre W W' ⟨⟨av, cap, h⟩, h2, h3⟩ s; exact ⟨⟨av, cap, h.soft s⟩, h2.trans (s.below.mono (by omega)), Nat.le_trans h3 s.below.size⟩
    · exact fun c pre W W' h s => h
    · exact fun pre W h => h.2.2
    · exact fun c pre W h => h.elim
    · exact ⟨⟨_, _, by simpa using hO⟩, hBD, Nat.le_refl _⟩
    · rintro x a' W W' ⟨rfl, h⟩ s; exact ⟨rfl, Nat.le_trans h s.below.size⟩
    · rintro x a' W ⟨rfl, h⟩; exact h
end Go.Proofs.YthlphfjmdgcpdaaGreatDoor

/- Rows of numbers in memory. -/
namespace Go.Proofs.YthlphfjmdgcpdaaGreatDoor
open Num
open Go.ChangeShapes Go.WideShapes Go.ChangeAt Go.RowKit
set_option linter.unusedVariables false
set_option linter.unusedSimpArgs false
/-- n numbers in block b from off on -/
def IntsF (R : World → Value → Int → Prop) (w : World) (b off n : Nat) (f : Nat → Int) : Prop :=
  ∀ k, k < n → ∃ nb a len c, w.cell? ⟨b, off + k * 2, none⟩ = some (.bool nb) ∧ w.cell? ⟨b, off + k * 2 + 1, none⟩ = some (.slice a len c) ∧ R w (.agg #[.bool nb, .slice a len c]) (f k)
section
variable {R : World → Value → Int → Prop} {w w' : World} {b off n : Nat} {f f' : Nat → Int}
theorem IntsF.congr (h : IntsF R w b off n f) (he : ∀ k, k < n → f k = f' k) : IntsF R w b off n f' := fun k hk => by
  rw [← he k hk]; exact h k hk
theorem IntsF.take {m : Nat} (h : IntsF R w b off n f) (hm : m ≤ n) : IntsF R w b off m f := fun k hk => h k (by omega)
/-- the row's own block as it was, no limb turned -/
theorem IntsF.stay (hR : Lims R) (h : IntsF R w b off n f) (hb : w'.heap[b]? = w.heap[b]?) (hl : Lim w w') : IntsF R w' b off n f := fun k hk => by
  obtain ⟨nb, a, len, c, h1, h2, h3⟩ := h k hk
  exact ⟨nb, a, len, c, by rw [World.cell?_of_block (w := w) hb]; exact h1, by rw [World.cell?_of_block (w := w) hb]; exact h2, hR _ _ _ _ h3 hl⟩
theorem IntsF.keep (hR : Lims R) (h : IntsF R w b off n f) (hb : Below w.heap.size w w') : IntsF R w' b off n f := fun k hk => by
  obtain ⟨nb, a, len, c, h1, h2, h3⟩ := h k hk
  exact ⟨nb, a, len, c, bkeep hb h1, bkeep hb h2, hR _ _ _ _ h3 (.of_below hb)⟩
theorem IntsF.out {X : Nat → Prop} (hR : Lims R) (h : IntsF R w b off n f) (ho : Out X w w') (hx : ¬ X b) (hl : Lim w w') : IntsF R w' b off n f := fun k hk => by
  obtain ⟨nb, a, len, c, h1, h2, h3⟩ := h k hk
  exact ⟨nb, a, len, c, okeep ho h1 hx, okeep ho h2 hx, hR _ _ _ _ h3 hl⟩
/-- one of them is set -/
theorem IntsF.store (hR : Lims R) (h : IntsF R w b off n f) {k : Nat} (hk : k < n) {nb : Bool} {a : Option Addr} {len c : Nat} {z : Int} (hv : R w (.agg #[.bool nb, .slice a len c]) z) :
    IntsF R ((w.setCell ⟨b, off + k * 2, none⟩ (.bool nb)).setCell ⟨b, off + k * 2 + 1, none⟩ (.slice a len c)) b off n (fun i => if i = k then z else f i) := by
  obtain ⟨nb0, a0, len0, c0, h1, h2, h3⟩ := h k hk
  have hl : Lim w ((w.setCell ⟨b, off + k * 2, none⟩ (.bool nb)).setCell ⟨b, off + k * 2 + 1, none⟩ (.slice a len c)) :=
    ((Lim.refl w).bool h1 _).slice (cell_far h2 (by simp) _) _
  intro i hi
  by_cases e : i = k
  · subst e
    refine ⟨nb, a, len, c, cell_far (cell_here h1 _) (by simp) _, cell_here (cell_far h2 (by simp) _) _, ?_⟩
    simp only [if_true]
    exact hR _ _ _ _ hv hl
  · obtain ⟨nb1, a1, len1, c1, k1, k2, k3⟩ := h i hi
    refine ⟨nb1, a1, len1, c1, cell_far (cell_far k1 (by simp <;> omega) _) (by simp <;> omega) _, cell_far (cell_far k2 (by simp <;> omega) _) (by simp <;> omega) _, ?_⟩
    show R _ _ (if i = k then z else f i)
    rw [if_neg e]
    exact hR _ _ _ _ k3 hl
/-- two cells elsewhere are set -/
theorem IntsF.far (hR : Lims R) (h : IntsF R w b off n f) {g o : Nat} (hg : g ≠ b) {x : Bool} {y : Option Addr} {p q : Nat} (r0 : w.cell? ⟨g, o, none⟩ = some (.bool x)) (r1 : w.cell? ⟨g, o + 1, none⟩ = some (.slice y p q)) (u v : Value) :
    IntsF R ((w.setCell ⟨g, o, none⟩ u).setCell ⟨g, o + 1, none⟩ v) b off n f := fun i hi => by
  obtain ⟨nb1, a1, len1, c1, k1, k2, k3⟩ := h i hi
  exact ⟨nb1, a1, len1, c1, cell_far (cell_far k1 (addr_ne hg) _) (addr_ne hg) _, cell_far (cell_far k2 (addr_ne hg) _) (addr_ne hg) _, hR _ _ _ _ k3 (((Lim.refl w).bool r0 _).slice (cell_far r1 (by simp) _) _)⟩
end
theorem isInt_zero (w : World) : IsInt w (.agg #[.bool false, .slice none 0 0]) 0 :=
  ⟨false, none, 0, [], rfl, ⟨Nat.le_refl _, by unfold maxLen; omega, (fun _ h => by cases h), .inl rfl⟩, (fun h => absurd rfl h), (fun h => by cases h), rfl⟩
/-- the cells of n noughts -/
def zcel (n : Nat) : Array Value := madeCells #[.bool false, .slice none 0 0] (n * 2)
theorem zcel_at {n k : Nat} (h : k < n) : (zcel n)[k * 2]? = some (.bool false) ∧ (zcel n)[k * 2 + 1]? = some (.slice none 0 0) := by
  unfold zcel madeCells
  constructor
  · simp [Array.getElem?_map, Array.getElem?_range, show k * 2 < n * 2 from by omega]
  · have e : (k * 2 + 1) % 2 = 1 := by omega
    simp [Array.getElem?_map, Array.getElem?_range, show k * 2 + 1 < n * 2 from by omega, e]
theorem infoInt : (Tryz.prog.info? 36).map (fun i => (i.zero, i.size, i.bytes)) = some (some (.agg #[.bool false, .slice none 0 0]), 2, 32) := by kernel_rfl
/-- a row of numbers of the call's own, built by append -/
def OwnF (R : World → Value → Int → Prop) (E : TypeId) (w0 wr : World) (v : Value) (n : Nat) (f : Nat → Int) : Prop :=
  ∃ xs, OwnE E 2 w0 wr v n xs ∧ ∀ k, k < n → ∃ nb a len c, xs[k * 2]? = some (.bool nb) ∧ xs[k * 2 + 1]? = some (.slice a len c) ∧ R wr (.agg #[.bool nb, .slice a len c]) (f k)
section
variable {R : World → Value → Int → Prop} {E : TypeId} {w0 wr w' : World} {v : Value} {n : Nat} {f : Nat → Int}
theorem OwnF.nil (R : World → Value → Int → Prop) (E : TypeId) {w0 wr : World} (f : Nat → Int) (hb : Below w0.heap.size w0 wr) : OwnF R E w0 wr (.slice none 0 0) 0 f := ⟨[], OwnE.nil _ _ hb, fun k hk => absurd hk (by omega)⟩
theorem OwnF.below (hR : Lims R) (h : OwnF R E w0 wr v n f) (hb : Below wr.heap.size wr w') : OwnF R E w0 w' v n f := by
  obtain ⟨xs, h1, h2⟩ := h
  refine ⟨xs, h1.below hb, fun k hk => ?_⟩
  obtain ⟨nb, a, len, c, k1, k2, k3⟩ := h2 k hk
  exact ⟨nb, a, len, c, k1, k2, hR _ _ _ _ k3 (.of_below hb)⟩
theorem OwnF.bel (h : OwnF R E w0 wr v n f) : Below w0.heap.size w0 wr := by obtain ⟨xs, h1, _⟩ := h; exact h1.2
theorem OwnF.view (h : OwnF R E w0 wr v n f) : ∃ a c, v = .slice a n c ∧ n ≤ c ∧ c ≤ maxLen ∧ (n = 0 ∨ ∃ g, a = some ⟨g, 0, none⟩ ∧ w0.heap.size ≤ g ∧ IntsF R wr g 0 n f) := by
  obtain ⟨xs, ⟨⟨hl, h1⟩, _⟩, h2⟩ := h
  rcases h1 with ⟨rfl, rfl⟩ | ⟨g, cap, cur, rfl, hg, hh, hc, hm, hs, ht⟩
  · exact ⟨none, 0, rfl, Nat.le_refl _, by unfold maxLen; omega, .inl rfl⟩
  · refine ⟨_, cap, rfl, hc, hm, .inr ⟨g, rfl, hg, fun k hk => ?_⟩⟩
    obtain ⟨nb, a, len, c, k1, k2, k3⟩ := h2 k hk
    have cel : ∀ j u, xs[j]? = some u → wr.cell? ⟨g, j, none⟩ = some u := fun j u hj => by
      have hj2 : j < n * 2 := by have := (List.getElem?_eq_some_iff.1 hj).1; omega
      rw [← ht, List.getElem?_take_of_lt (by omega)] at hj
      simpa [World.cell?, hh] using hj
    exact ⟨nb, a, len, c, by rw [Nat.zero_add]; exact cel _ _ k1, by rw [Nat.zero_add]; exact cel _ _ k2, k3⟩
end
/-- what an append of one number makes of such a row -/
theorem own_snoc {R : World → Value → Int → Prop} (hR : Lims R) {E : TypeId} {w0 wr w' : World} {v' : Value} {n : Nat} {f : Nat → Int} {xs : List Value} {nb : Bool} {a : Option Addr} {len c : Nat} {z : Int}
    (h2 : ∀ k, k < n → ∃ nb a len c, xs[k * 2]? = some (.bool nb) ∧ xs[k * 2 + 1]? = some (.slice a len c) ∧ R wr (.agg #[.bool nb, .slice a len c]) (f k)) (hl : xs.length = n * 2)
    (hv : R wr (.agg #[.bool nb, .slice a len c]) z) (hlim : Lim wr w') (hO : OwnE E 2 w0 w' v' (n + 1) (xs ++ [.bool nb, .slice a len c])) : OwnF R E w0 w' v' (n + 1) (fun i => if i = n then z else f i) := by
  refine ⟨_, hO, fun k hk => ?_⟩
  by_cases e : k = n
  · subst e
    refine ⟨nb, a, len, c, ?_, ?_, ?_⟩
    · rw [List.getElem?_append_right (by omega), hl]; simp
    · rw [List.getElem?_append_right (by omega), hl]; simp
    · simp only [if_true]; exact hR _ _ _ _ hv hlim
  · obtain ⟨nb1, a1, len1, c1, k1, k2, k3⟩ := h2 k (by omega)
    refine ⟨nb1, a1, len1, c1, ?_, ?_, ?_⟩
    · rw [List.getElem?_append_left (by omega)]; exact k1
    · rw [List.getElem?_append_left (by omega)]; exact k2
    · show R _ _ (if k = n then z else f k)
      rw [if_neg e]; exact hR _ _ _ _ k3 hlim
section
variable {P : Program} {T E : TypeId} {bytes : Nat} {R : World → Value → Int → Prop} {ops : Array Oper} {o : Oper} {a : Act} {Q : Exit → Act → World → Prop} {w0 wr : World} {v : Value} {n : Nat} {f : Nat → Int} {t : TypeId} {s x : Operand} {nb : Bool} {ad : Option Addr} {len c m cc : Nat} {z : Int}
/-- append of one number -/
theorem app_num {rest : List Oper} (el : Elt P T E 2 bytes) (hE : E ≠ 121) (hR : Lims R) (hgd : o.guard = none)
    (ho : o.op = .call { callee := .builtin .append, args := #[s, x], argTypes := #[T, T] }) (hO : OwnF R E w0 wr v n f) (hv : R wr (.agg #[.bool nb, .slice ad len c]) z) (hs : a.eval s = v)
    (hx : a.eval x = .slice (some ⟨wr.heap.size, 0, none⟩) 1 cc) (hn : n + 1 ≤ 1099511627776)
    (h : ∀ v' w', OwnF R E w0 w' v' (n + 1) (fun i => if i = n then z else f i) → Lim wr w' → Out (fun k => v.ownBlock = some k) wr w' → wpList P ops Q rest (a.put o.dst v') w') : wpList P ops Q (o :: rest) a (wr.alloc (.cells #[.bool nb, .slice ad len c] t)) := by
  obtain ⟨i, z0, hi, hz, hsize, hby, hzs⟩ := el.info
  obtain ⟨xs, h1, h2⟩ := hO
  have hb : (n + 1) * bytes ≤ 1099511627776 * 128 := Nat.mul_le_mul hn el.small
  refine wpList_append_own _ hgd s x T ho w0.heap.size E i z0 2 bytes el.ht hi hz hsize hby hzs el.pos v n xs hs (h1.1.alloc _) ⟨wr.heap.size, 0, none⟩ 1 cc [.bool nb, .slice ad len c] hx rfl (cells_new wr _ t) (fun u hu => by simp at hu; rcases hu with rfl | rfl <;> rfl) (by unfold maxLen; omega) (by omega) (by have := h1.2.size; simp; omega) ?_
  intro v' w' hown hg _
  have hl : Lim wr w' := ((Lim.refl wr).alloc _).grown hg fun g hg' ht => hE (by
    rw [typ_keep (own_typ h1 hg') (bal (Below.refl _ _) _)] at ht
    exact Option.some.inj ht)
  exact h v' w' (own_snoc hR h2 h1.1.1 hv hl ⟨hown, below_append (wr := wr) (bal h1.2 _) (h1.1.alloc _) hg⟩) hl (((Out.refl _ wr).alloc _).grown hg fun k hk _ => hk)
end
theorem infoRef : (Tryz.prog.info? 43).map (fun i => (i.zero, i.size, i.bytes)) = some (some (.agg #[.bool false, .slice none 0 0]), 2, 32) := by kernel_rfl
theorem elInt : Elt Tryz.prog 59 36 2 32 := Elt.mk' Tryz.underlying59 infoInt rfl (by decide) (by decide)
/-- a block without frozen cells -/
def Free (w : World) (g : Nat) : Prop := g < w.heap.size ∧ ∀ j, w.frozen? ⟨g, j, none⟩ = false
theorem Free.keep {w w' : World} {g : Nat} (h : Free w g) (hb : Below w.heap.size w w') : Free w' g :=
  ⟨Nat.lt_of_lt_of_le h.1 hb.size, fun j => by rw [hb.frozen h.1]; exact h.2 j⟩
theorem Free.new {w : World} {c : Array Value} {t : TypeId} {g : Nat} (hg : g = w.heap.size) : Free (w.alloc (.cells c t)) g :=
  ⟨by simp <;> omega, fun j => by rw [World.frozen?_alloc_at (hn := hg)] <;> rfl⟩
theorem Free.set {w : World} {g : Nat} (h : Free w g) (p : Addr) (v : Value) : Free (w.setCell p v) g := ⟨by simpa using h.1, fun j => by rw [World.frozen?_setCell]; exact h.2 j⟩
theorem Free.out {X : Nat → Prop} {w w' : World} {g : Nat} (h : Free w g) (ho : Out X w w') (hx : ¬ X g) : Free w' g :=
  ⟨Nat.lt_of_lt_of_le h.1 ho.size, fun j => by rw [World.frozen?_of_block (w := w) (ho.block g h.1 hx)]; exact h.2 j⟩
theorem IntsF.at0 {R : World → Value → Int → Prop} {w : World} {b n k : Nat} {f : Nat → Int} (h : IntsF R w b 0 n f) (hk : k < n) : ∃ nb a len c, w.cell? ⟨b, k * 2, none⟩ = some (.bool nb) ∧ w.cell? ⟨b, k * 2 + 1, none⟩ = some (.slice a len c) ∧ R w (.agg #[.bool nb, .slice a len c]) (f k) := by
  simpa using h k hk
theorem IntsF.store0 {R : World → Value → Int → Prop} {w : World} {b n : Nat} {f : Nat → Int} (hR : Lims R) (h : IntsF R w b 0 n f) {k : Nat} (hk : k < n) {nb : Bool} {a : Option Addr} {len c : Nat} {z : Int} (hv : R w (.agg #[.bool nb, .slice a len c]) z) :
    IntsF R ((w.setCell ⟨b, k * 2, none⟩ (.bool nb)).setCell ⟨b, k * 2 + 1, none⟩ (.slice a len c)) b 0 n (fun i => if i = k then z else f i) := by
  have := h.store hR hk hv
  simpa using this
/-- two cells of a struct are set: no limb turns -/
theorem Lim.set2 {w : World} {g o : Nat} {x : Bool} {y : Option Addr} {p q : Nat} (r0 : w.cell? ⟨g, o, none⟩ = some (.bool x)) (r1 : w.cell? ⟨g, o + 1, none⟩ = some (.slice y p q)) (u v : Value) : Lim w ((w.setCell ⟨g, o, none⟩ u).setCell ⟨g, o + 1, none⟩ v) :=
  ((Lim.refl w).bool r0 _).slice (cell_far r1 (by simp) _) _
theorem Out.set2 {X : Nat → Prop} {a b : World} (h : Out X a b) {g o : Nat} (hx : g < a.heap.size → X g) (u v : Value) : Out X a ((b.setCell ⟨g, o, none⟩ u).setCell ⟨g, o + 1, none⟩ v) := (h.set hx u).set hx v
end Go.Proofs.YthlphfjmdgcpdaaGreatDoor

/- Rows of numbers as values; rows of rows. 'Kp S w w'': the blocks of the types S are as they were. -/
namespace Go.Proofs.YthlphfjmdgcpdaaGreatDoor
open Num
open Go.ChangeShapes Go.WideShapes Go.ChangeAt Go.RowKit
set_option linter.unusedVariables false
set_option linter.unusedSimpArgs false
/-- the blocks of the types S are as they were -/
def Kp (S : TypeId → Prop) (w w' : World) : Prop := ∀ b t, typOf w b = some t → S t → w'.heap[b]? = w.heap[b]?
section
variable {S : TypeId → Prop} {a b c w w' : World}
theorem Kp.refl (S : TypeId → Prop) (w : World) : Kp S w w := fun _ _ _ _ => rfl
theorem Kp.trans (h : Kp S a b) (k : Kp S b c) : Kp S a c := fun q t ht hs => (k q t (by rw [typ_of_block (w := a) (h q t ht hs)]; exact ht) hs).trans (h q t ht hs)
theorem Kp.of_below (S : TypeId → Prop) (h : Below a.heap.size a b) : Kp S a b := fun q t ht _ => h.block q (typ_lt ht)
theorem Kp.below (h : Kp S a b) (k : Below b.heap.size b c) : Kp S a c := h.trans (.of_below S k)
theorem Kp.alloc (h : Kp S a b) (o : Obj) : Kp S a (b.alloc o) := h.below (bal (Below.refl _ _) o)
theorem Kp.drew (h : Kp S a b) : Kp S a b.drew := h
theorem Kp.drewN (h : Kp S a b) (n : Nat) : Kp S a (b.drewN n) := h
theorem Kp.grown {row : Option Nat} (h : Kp S a b) (hg : b.grownBy c row) (hr : ∀ g, row = some g → ∀ t, typOf b g = some t → ¬ S t) : Kp S a c :=
  h.trans fun q t ht hs => hg.block q (typ_lt ht) fun e => hr q e.symm t ht hs
theorem Kp.set (h : Kp S a b) {p : Addr} (hp : ∀ t, typOf b p.block = some t → ¬ S t) (u : Value) : Kp S a (b.setCell p u) :=
  h.trans fun q t ht hs => Below.heap_setCell _ _ _ _ fun e => hp t (by rw [← e]; exact ht) hs
theorem Kp.lim (h : Kp S a b) (hs : S 121) : Lim a b := fun q ht => by
  have e := h q _ ht hs
  exact ⟨by rw [typ_of_block (w := a) e]; exact ht, fun o n hc => by rw [World.cell?_of_block (w := a) e]; exact hc⟩
theorem Kp.typ (h : Kp S a b) {q : Nat} {t : TypeId} (ht : typOf a q = some t) (hs : S t) : typOf b q = some t := by rw [typ_of_block (w := a) (h q t ht hs)]; exact ht
theorem Kp.out {X : Nat → Prop} (h : Out X a b) (hx : ∀ q t, X q → typOf a q = some t → ¬ S t) : Kp S a b := fun q t ht hs => h.block q (typ_lt ht) fun hq => hx q t hq ht hs
end
/-- a slice value that holds the numbers l, in a block from base on -/
def IsRow (R : World → Value → Int → Prop) (E : TypeId) (base : Nat) (w : World) (v : Value) (l : List Int) : Prop :=
  ∃ a c, v = .slice a l.length c ∧ l.length ≤ c ∧ c ≤ maxLen ∧ (l = [] ∨ ∃ b off, a = some ⟨b, off, none⟩ ∧ base ≤ b ∧ typOf w b = some E ∧ IntsF R w b off l.length (fun k => l.getD k 0))
/-- the program's rows; the reference's -/
def PRow := IsRow IsInt 36
def RRow := IsRow IsRef 43
section
variable {R : World → Value → Int → Prop} {E : TypeId} {base : Nat} {w w' : World} {v : Value} {l : List Int}
theorem IsRow.kp {S : TypeId → Prop} (hR : Lims R) (h : IsRow R E base w v l) (k : Kp S w w') (hs : S 121) (hE : S E) : IsRow R E base w' v l := by
  obtain ⟨a, c, h1, h2, h3, h4⟩ := h
  refine ⟨a, c, h1, h2, h3, h4.imp id ?_⟩
  rintro ⟨b, off, e, hb, ht, hi⟩
  exact ⟨b, off, e, hb, k.typ ht hE, hi.stay hR (k b _ ht hE) (k.lim hs)⟩
theorem IsRow.keep (hR : Lims R) (h : IsRow R E base w v l) (k : Below w.heap.size w w') : IsRow R E base w' v l := by
  obtain ⟨a, c, h1, h2, h3, h4⟩ := h
  refine ⟨a, c, h1, h2, h3, h4.imp id ?_⟩
  rintro ⟨b, off, e, hb, ht, hi⟩
  exact ⟨b, off, e, hb, typ_keep ht k, hi.keep hR k⟩
theorem IsRow.rebase {base' : Nat} (h : IsRow R E base w v l) (hb : base' ≤ base) : IsRow R E base' w v l := by
  obtain ⟨a, c, h1, h2, h3, h4⟩ := h
  refine ⟨a, c, h1, h2, h3, h4.imp id ?_⟩
  rintro ⟨b, off, e, hb', r⟩
  exact ⟨b, off, e, Nat.le_trans hb hb', r⟩
theorem IsRow.nil (R : World → Value → Int → Prop) (E : TypeId) (base : Nat) (w : World) : IsRow R E base w (.slice none 0 0) [] := ⟨none, 0, rfl, Nat.le_refl _, by unfold maxLen; omega, .inl rfl⟩
theorem OwnF.row {w0 wr : World} (h : OwnF R E w0 wr v l.length (fun k => l.getD k 0)) : IsRow R E w0.heap.size wr v l := by
  obtain ⟨xs, ⟨⟨hl, h1⟩, hB⟩, h2⟩ := h
  rcases h1 with ⟨rfl, h0⟩ | ⟨g, cap, cur, rfl, hg, hh, hc, hm, hs, ht⟩
  · have : l = [] := List.length_eq_zero_iff.1 h0
    subst this
    exact IsRow.nil R E _ _
  · refine ⟨_, cap, rfl, hc, hm, .inr ⟨g, 0, rfl, hg, by unfold typOf; rw [hh], fun k hk => ?_⟩⟩
    obtain ⟨nb, a, len, c, k1, k2, k3⟩ := h2 k hk
    have cel : ∀ j u, xs[j]? = some u → wr.cell? ⟨g, j, none⟩ = some u := fun j u hj => by
      have hj2 : j < l.length * 2 := by have := (List.getElem?_eq_some_iff.1 hj).1; omega
      rw [← ht, List.getElem?_take_of_lt (by omega)] at hj
      simpa [World.cell?, hh] using hj
    exact ⟨nb, a, len, c, by rw [Nat.zero_add]; exact cel _ _ k1, by rw [Nat.zero_add]; exact cel _ _ k2, k3⟩
end
/-- a row of slice values, each of which holds a row of numbers -/
def IsGrid (R : World → Value → Int → Prop) (E T : TypeId) (base : Nat) (w : World) (v : Value) (g : List (List Int)) : Prop :=
  ∃ a c, v = .slice a g.length c ∧ g.length ≤ c ∧ c ≤ maxLen ∧ (g = [] ∨ ∃ b off, a = some ⟨b, off, none⟩ ∧ base ≤ b ∧ typOf w b = some T ∧ ∀ k, k < g.length → ∃ u, w.cell? ⟨b, off + k, none⟩ = some u ∧ IsRow R E base w u (g.getD k []))
section
variable {R : World → Value → Int → Prop} {E T : TypeId} {base : Nat} {w w' : World} {v : Value} {g : List (List Int)}
theorem IsGrid.keep (hR : Lims R) (h : IsGrid R E T base w v g) (k : Below w.heap.size w w') : IsGrid R E T base w' v g := by
  obtain ⟨a, c, h1, h2, h3, h4⟩ := h
  refine ⟨a, c, h1, h2, h3, h4.imp id ?_⟩
  rintro ⟨b, off, e, hb, ht, hi⟩
  refine ⟨b, off, e, hb, typ_keep ht k, fun j hj => ?_⟩
  obtain ⟨u, hu, hr⟩ := hi j hj
  exact ⟨u, bkeep k hu, hr.keep hR k⟩
theorem IsGrid.kp {S : TypeId → Prop} (hR : Lims R) (h : IsGrid R E T base w v g) (k : Kp S w w') (hs : S 121) (hE : S E) (hT : S T) : IsGrid R E T base w' v g := by
  obtain ⟨a, c, h1, h2, h3, h4⟩ := h
  refine ⟨a, c, h1, h2, h3, h4.imp id ?_⟩
  rintro ⟨b, off, e, hb, ht, hi⟩
  refine ⟨b, off, e, hb, k.typ ht hT, fun j hj => ?_⟩
  obtain ⟨u, hu, hr⟩ := hi j hj
  exact ⟨u, by rw [World.cell?_of_block (w := w) (k b _ ht hT)]; exact hu, hr.kp hR k hs hE⟩
theorem IsGrid.rebase {base' : Nat} (h : IsGrid R E T base w v g) (hb : base' ≤ base) : IsGrid R E T base' w v g := by
  obtain ⟨a, c, h1, h2, h3, h4⟩ := h
  refine ⟨a, c, h1, h2, h3, h4.imp id ?_⟩
  rintro ⟨b, off, e, hb', ht, hi⟩
  refine ⟨b, off, e, Nat.le_trans hb hb', ht, fun j hj => ?_⟩
  obtain ⟨u, hu, hr⟩ := hi j hj
  exact ⟨u, hu, hr.rebase hb⟩
theorem IsGrid.nil (R : World → Value → Int → Prop) (E T : TypeId) (base : Nat) (w : World) : IsGrid R E T base w (.slice none 0 0) [] := ⟨none, 0, rfl, Nat.le_refl _, by unfold maxLen; omega, .inl rfl⟩
end
/-- such a row of the call's own, built by append -/
def OwnG (R : World → Value → Int → Prop) (E T : TypeId) (base : Nat) (w0 wr : World) (v : Value) (g : List (List Int)) : Prop :=
  ∃ xs, OwnE T 1 w0 wr v g.length xs ∧ ∀ k, k < g.length → ∃ u, xs[k]? = some u ∧ IsRow R E base wr u (g.getD k [])
section
variable {R : World → Value → Int → Prop} {E T : TypeId} {base : Nat} {w0 wr w' : World} {v : Value} {g : List (List Int)}
theorem OwnG.nil (R : World → Value → Int → Prop) (E T : TypeId) (base : Nat) {w0 wr : World} (hb : Below w0.heap.size w0 wr) : OwnG R E T base w0 wr (.slice none 0 0) [] := ⟨[], OwnE.nil _ _ hb, fun k hk => absurd hk (by simp)⟩
theorem OwnG.below (hR : Lims R) (h : OwnG R E T base w0 wr v g) (hb : Below wr.heap.size wr w') : OwnG R E T base w0 w' v g := by
  obtain ⟨xs, h1, h2⟩ := h
  refine ⟨xs, h1.below hb, fun k hk => ?_⟩
  obtain ⟨u, hu, hr⟩ := h2 k hk
  exact ⟨u, hu, hr.keep hR hb⟩
theorem OwnG.bel (h : OwnG R E T base w0 wr v g) : Below w0.heap.size w0 wr := by obtain ⟨xs, h1, _⟩ := h; exact h1.2
theorem OwnG.grid (h : OwnG R E T base w0 wr v g) (hb : base ≤ w0.heap.size) : IsGrid R E T base wr v g := by
  obtain ⟨xs, ⟨⟨hl, h1⟩, _⟩, h2⟩ := h
  rcases h1 with ⟨rfl, h0⟩ | ⟨b, cap, cur, rfl, hg, hh, hc, hm, hs, ht⟩
  · have : g = [] := List.length_eq_zero_iff.1 h0
    subst this
    exact IsGrid.nil R E T _ _
  · refine ⟨_, cap, rfl, hc, hm, .inr ⟨b, 0, rfl, by omega, by unfold typOf; rw [hh], fun k hk => ?_⟩⟩
    obtain ⟨u, hu, hr⟩ := h2 k hk
    refine ⟨u, ?_, hr⟩
    rw [← ht, List.getElem?_take_of_lt (by omega)] at hu
    simpa [World.cell?, hh] using hu
theorem OwnG.ex (h : OwnG R E T base w0 wr v g) : ∃ a c, v = .slice a g.length c := by
  obtain ⟨xs, ⟨⟨_, h1⟩, _⟩, _⟩ := h
  rcases h1 with ⟨rfl, h0⟩ | ⟨b, cap, cur, rfl, _⟩
  · exact ⟨none, 0, by rw [h0]⟩
  · exact ⟨_, _, rfl⟩
end
section
variable {P : Program} {TT T E : TypeId} {base bytes : Nat} {R : World → Value → Int → Prop} {ops : Array Oper} {o : Oper} {a : Act} {Q : Exit → Act → World → Prop} {w0 wr : World} {v u : Value} {g : List (List Int)} {l : List Int} {t : TypeId} {s x : Operand} {cc : Nat}
end
end Go.Proofs.YthlphfjmdgcpdaaGreatDoor

/- The reference's numbers: Sub; Add and Sub of numbers no greater than one of so many digits. -/
namespace Go.Proofs.YthlphfjmdgcpdaaGreatDoor
open Num
open Go.ChangeShapes Go.WideShapes Go.ChangeAt Go.RowKit
set_option linter.unusedVariables false
set_option linter.unusedSimpArgs false
end Go.Proofs.YthlphfjmdgcpdaaGreatDoor

/- The reference's numbers: DivMod. -/
namespace Go.Proofs.YthlphfjmdgcpdaaGreatDoor
open Num
open Go.ChangeShapes Go.WideShapes Go.ChangeAt Go.RowKit
set_option linter.unusedVariables false
set_option linter.unusedSimpArgs false
theorem Free.al {w : World} {g : Nat} (h : Free w g) (o : Obj) : Free (w.alloc o) g := h.keep (bal (Below.refl _ _) _)
theorem Free.dr {w : World} {g : Nat} (h : Free w g) : Free w.drew g := h
end Go.Proofs.YthlphfjmdgcpdaaGreatDoor

/- The reference's numbers: DivMod, by values; Over. -/
namespace Go.Proofs.YthlphfjmdgcpdaaGreatDoor
open Num
open Go.ChangeShapes Go.WideShapes Go.ChangeAt Go.RowKit
set_option linter.unusedVariables false
set_option linter.unusedSimpArgs false
end Go.Proofs.YthlphfjmdgcpdaaGreatDoor

