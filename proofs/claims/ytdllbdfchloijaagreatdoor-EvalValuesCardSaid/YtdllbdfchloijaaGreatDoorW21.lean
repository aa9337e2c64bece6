/- Texts of this seat, laid together: ExI, RtD, ExM, PtPow2, PtPowLaw, Vo. Each opens with its own remark, which says what it proves, and under which conditions. -/
import Derived.Test.YtdllbdfchloijaaGreatDoorW20
import Derived.Test.YtdllbdfchloijaaGreatDoorW15
import Derived.Deep.RegionLaw
import Derived.Deep.LoopGhost
import Derived.Test.YtdllbdfchloijaaGreatDoorW17
import Derived.Test.YtdllbdfchloijaaGreatDoorW18
import Derived.Test.YtdllbdfchloijaaGreatDoorW19
import Derived.Test.YtdllbdfchloijaaGreatDoorRows
import Derived.Test.YtdllbdfchloijaaGreatDoorW14
import Derived.Lib.SmallJoins
import Derived.Deep.Slices
import Derived.Deep.Matrix
import Derived.Deep.Fields
import Derived.ChangeSame
import Derived.DataShut
set_option linter.unusedVariables false
set_option linter.unusedSimpArgs false
/- exact: laid: the registers over a grid. -/
namespace Go.Proofs.YtdllbdfchloijaaGreatDoor
open Num
open Go.ChangeShapes Go.WideShapes Go.ChangeAt Go.RowKit
set_option linter.unusedVariables false
set_option linter.unusedSimpArgs false
attribute [local go_sem ↓] Go.wp_at_zero Go.wp_at_succ
set_option maxRecDepth 100000 in
theorem copy_key {w : World} {g R c base : Nat} {ad : Option Addr} {l : List Int} (ty : TypeId) (hv : PRow base w (.slice ad l.length c) l) (hl : l.length ≤ R) (hg : w.heap[g]? = some (Obj.cells (zcel R) 50 (0, 0))) :
    ∃ n w', (Builtin.copy_ #[43, 43] ty #[.slice (some ⟨g, 0, none⟩) R R, .slice ad l.length c]).run Tryz.prog w = .ok n w' ∧ IntsF IsInt w' g 0 R (fun j => (startN l R).getD j 0) ∧ Free w' g ∧ typOf w' g = some 50 ∧ Out (fun k => k = g) w w' := by
  obtain ⟨i0, z0, hi, hz0, hz1, hz2, hz3⟩ := elInt.info
  obtain ⟨a', c', he, h2, h3, h4⟩ := hv
  obtain ⟨rfl, -, rfl⟩ := Value.slice.inj he
  have hty : typOf w g = some 50 := by unfold typOf; rw [hg]
  have hzs : (zcel R).size = R * 2 := by simp [zcel, size_madeCells]
  have hm : Nat.min l.length R = l.length := Nat.min_eq_left hl
  rcases h4 with rfl | ⟨b, off, rfl, hb, ht, hi'⟩
  · refine ⟨goInt 0, w, ?_, ?_, ?_, hty, Out.refl _ _⟩
    · cases ad with
      | none => simp [Builtin.copy_, run_underlying Tryz.underlying43, Builtin.lenOf, Builtin.firstCells, sizeOf, typeInfo, hi, storeCells]
      | some q => simp [Builtin.copy_, run_underlying Tryz.underlying43, Builtin.lenOf, Builtin.firstCells, sizeOf, typeInfo, hi, storeCells, loadCells, loadCellsFrom]
    · intro k hk
      obtain ⟨e1, e2⟩ := zcel_at hk
      refine ⟨false, none, 0, 0, by simp [World.cell?, hg, e1], by simp [World.cell?, hg, e2], ?_⟩
      show IsInt w _ ((startN [] R).getD k 0)
      rw [startN_ge (by simp)]; exact isInt_zero _
    · exact ⟨(Array.getElem?_eq_some_iff.1 hg).1, fun j => by simp [World.frozen?, hg]⟩
  · have hl2 : (cellsAt w b off (l.length * 2)).length = l.length * i0.size := by rw [cellsAt_len, hz1]
    have hsrc : ∀ j u, (cellsAt w b off (l.length * 2))[j]? = some u → w.cell? ((⟨b, off, none⟩ : Addr).add j) = some u := cellsAt_at (Below.refl _ _) fun j hj => by obtain ⟨v, hv, _⟩ := intsF_cells hi' j hj; exact ⟨v, hv⟩
    have hf := run_firstCells_some (P := Tryz.prog) w i0.size l.length ⟨b, off, none⟩ l.length c _ hl2 hsrc
    have hst := run_storeCells_at Tryz.prog g 0 _ (cellsAt w b off (l.length * 2)) 0 (zcel R) w hg (by rw [cellsAt_len, hzs]; omega) (cellsAt_all (intsF_cells hi'))
    refine ⟨goInt l.length, w.setRow g ((zcel R).toList.take (0 + 0) ++ cellsAt w b off (l.length * 2) ++ (zcel R).toList.drop (0 + 0 + (cellsAt w b off (l.length * 2)).length)).toArray, by simp [Builtin.copy_, run_underlying Tryz.underlying43, Builtin.lenOf, sizeOf, typeInfo, hi, hm, hf, hst], ?_⟩
    have hh := setRow_heap w g (zcel R) ((zcel R).toList.take (0 + 0) ++ cellsAt w b off (l.length * 2) ++ (zcel R).toList.drop (0 + 0 + (cellsAt w b off (l.length * 2)).length)).toArray _ _ hg
    have hO : Out (fun k => k = g) w (w.setRow g ((zcel R).toList.take (0 + 0) ++ cellsAt w b off (l.length * 2) ++ (zcel R).toList.drop (0 + 0 + (cellsAt w b off (l.length * 2)).length)).toArray) := ⟨rfl, rfl, rfl, by simp [World.setRow], fun k hk hx => setRow_other w g k _ hx⟩
    have hLim : Lim w (w.setRow g ((zcel R).toList.take (0 + 0) ++ cellsAt w b off (l.length * 2) ++ (zcel R).toList.drop (0 + 0 + (cellsAt w b off (l.length * 2)).length)).toArray) := (Kp.out (S := (· ≠ 50)) hO (fun q t hq ht k => by subst hq; rw [hty] at ht; exact k (Option.some.inj ht).symm)).lim (by decide)
    refine ⟨fun k hk => ?_, ⟨(Array.getElem?_eq_some_iff.1 hh).1, fun j => by unfold World.frozen?; rw [show (World.setRow w g _).heap[(⟨g, j, none⟩ : Addr).block]? = _ from hh]; simp⟩, by unfold typOf; rw [hh], hO⟩
    have cel : ∀ j, (w.setRow g ((zcel R).toList.take (0 + 0) ++ cellsAt w b off (l.length * 2) ++ (zcel R).toList.drop (0 + 0 + (cellsAt w b off (l.length * 2)).length)).toArray).cell? ⟨g, j, none⟩ = (cellsAt w b off (l.length * 2) ++ (zcel R).toList.drop (l.length * 2))[j]? := fun j => by
      rw [cell_of_row _ g j _ _ _ hh]; simp [cellsAt_len]
    by_cases e : k < l.length
    · obtain ⟨nb, q, len, cq, k1, k2, k3⟩ := hi' k e
      refine ⟨nb, q, len, cq, ?_, ?_, ?_⟩
      · rw [cel, Nat.zero_add, List.getElem?_append_left (by rw [cellsAt_len]; omega)]; exact cellsAt_get (by omega) k1
      · rw [cel, Nat.zero_add, List.getElem?_append_left (by rw [cellsAt_len]; omega)]; exact cellsAt_get (by omega) k2
      · show IsInt _ _ ((startN l R).getD k 0)
        rw [startN_lt e]; exact lims_int _ _ _ _ k3 hLim
    · obtain ⟨e1, e2⟩ := zcel_at hk
      refine ⟨false, none, 0, 0, ?_, ?_, ?_⟩
      · rw [cel, Nat.zero_add, List.getElem?_append_right (by rw [cellsAt_len]; omega), cellsAt_len, List.getElem?_drop, show l.length * 2 + (k * 2 - l.length * 2) = k * 2 by omega, Array.getElem?_toList]; exact e1
      · rw [cel, Nat.zero_add, List.getElem?_append_right (by rw [cellsAt_len]; omega), cellsAt_len, List.getElem?_drop, show l.length * 2 + (k * 2 + 1 - l.length * 2) = k * 2 + 1 by omega, Array.getElem?_toList]; exact e2
      · show IsInt _ _ ((startN l R).getD k 0)
        rw [startN_ge (by omega)]; exact isInt_zero _

/-- copy of a row into a new one, as a step of a region that draws its order -/
theorem step_copy_ints {ops : Array Oper} {o : Oper} {a : Act} {w : World} {K : Act → World → Prop} {Q : Exit → Act → World → Prop} {E : Prop} {d x : Operand} (hgd : o.guard = none) (ho : o.op = .call { callee := .builtin .copy, args := #[d, x], argTypes := #[43, 43] }) {g R c base : Nat} {ad : Option Addr} {l : List Int}
    (hd : a.eval d = .slice (some ⟨g, 0, none⟩) R R) (hs : a.eval x = .slice ad l.length c) (hv : PRow base w (.slice ad l.length c) l) (hl : l.length ≤ R) (hg : w.heap[g]? = some (Obj.cells (zcel R) 50 (0, 0)))
    (h : ∀ n w', IntsF IsInt w' g 0 R (fun j => (startN l R).getD j 0) → Free w' g → typOf w' g = some 50 → Out (fun k => k = g) w w' → K (a.put o.dst n) w') : if Region.wanted o (yielded ops a.tmps) = true then Oper.wp Tryz.prog o a w K Q else E := by
  have hw : Region.wanted o (yielded ops a.tmps) = true := by simp [Region.wanted, hgd]
  rw [if_pos hw]
  obtain ⟨n, w', hr, h1, h2, h3, h4⟩ := copy_key o.type hv hl hg
  unfold Oper.wp
  simp [execOp, ho, resolve, invoke, builtin, hd, hs, hr, Result.andThen]
  exact h n w' h1 h2 h3 h4
theorem heap_fresh {w : World} {o : Obj} {n : Nat} (h : n = w.heap.size) : (w.alloc o).heap[n]? = some o := by subst h; exact (MapKept.heap_alloc w o).1
theorem typ_out {X : Nat → Prop} {a b : World} {g : Nat} {t : TypeId} (h : typOf a g = some t) (ho : Out X a b) (hx : ¬ X g) : typOf b g = some t := by
  rw [typ_of_block (w := a) (ho.block g (typ_lt h) hx)]; exact h
/-- registers, of which the first k are laid -/
def upG (S : Grid) (k : Nat) : Grid := S.take k ++ List.replicate (S.length - k) []
theorem upG_len {S : Grid} {k : Nat} (h : k ≤ S.length) : (upG S k).length = S.length := by simp [upG]; omega
theorem upG_all (S : Grid) : upG S S.length = S := by simp [upG]
theorem upG_set {S : Grid} {k : Nat} (h : k < S.length) : (upG S k).set k (S.getD k []) = upG S (k + 1) := by
  unfold upG
  apply List.ext_getElem?
  intro j
  rw [List.getElem?_set]
  have hl : (S.take k ++ List.replicate (S.length - k) ([] : List Int)).length = S.length := by simp; omega
  have hgk : S.getD k [] = S[k] := by simp [h]
  by_cases e : k = j
  · subst e
    rw [if_pos rfl, if_pos (by rw [hl]; exact h), List.getElem?_append_left (by simp; omega), List.getElem?_take_of_lt (by omega), hgk]
    exact (List.getElem?_eq_getElem h).symm
  · rw [if_neg e]
    by_cases e2 : j < k
    · rw [List.getElem?_append_left (by simp; omega), List.getElem?_append_left (by simp; omega), List.getElem?_take_of_lt e2, List.getElem?_take_of_lt (by omega)]
    · rw [List.getElem?_append_right (by simp; omega), List.getElem?_append_right (by simp; omega)]
      simp only [List.length_take, List.getElem?_replicate]
      have h1 : min k S.length = k := by omega
      have h2 : min (k + 1) S.length = k + 1 := by omega
      rw [h1, h2]
      by_cases e3 : j < S.length
      · rw [if_pos (by omega), if_pos (by omega)]
      · rw [if_neg (by omega), if_neg (by omega)]
theorem startG_lo {g : Grid} {R m k : Nat} (h : k < g.length) : (startG g R m).getD k [] = g.getD k [] := by
  unfold startG; simp [List.getD_eq_getElem?_getD, List.getElem?_append_left h]
theorem startG_hi {g : Grid} {R m k : Nat} (h : g.length ≤ k) (h2 : k < R) : (startG g R m).getD k [] = List.replicate m 0 := by
  unfold startG; rw [List.getD_eq_getElem?_getD, List.getElem?_append_right h, List.getElem?_replicate, if_pos (by omega)]; rfl
/-- one register is set, to a row in a new block -/
theorem RegsP.put {w W : World} {base rb k : Nat} {G : Grid} {u : Value} {r : List Int} (h : RegsP base w rb G) (ho : Out (fun q => q = rb ∨ q = w.heap.size) w W) (hf : Free W rb) (ht : typOf W rb = some 43)
    (hc : ∀ j, j ≠ k → ∀ v, w.cell? ⟨rb, j, none⟩ = some v → W.cell? ⟨rb, j, none⟩ = some v) (hk : W.cell? ⟨rb, k, none⟩ = some u) (hu : PRow base W u r) : RegsP base W rb (G.set k r) := by
  have hkp : Kp (· ≠ 43) w W := Kp.out ho (fun q t hq ht' hs => by
    rcases hq with rfl | rfl
    · rw [h.ty] at ht'; exact hs (Option.some.inj ht').symm
    · exact absurd (typ_lt ht') (by omega))
  refine ⟨hf, ht, fun j hj => ?_⟩
  rw [List.length_set] at hj
  by_cases e : k = j
  · subst e
    exact ⟨u, hk, by rw [show (G.set k r).getD k [] = r by simp [hj]]; exact hu⟩
  · obtain ⟨v, hv, hr⟩ := h.cell j hj
    exact ⟨v, hc j (Ne.symm e) v hv, by rw [show (G.set k r).getD j [] = G.getD j [] by simp [List.getElem?_set_ne e]]; exact hr.kp lims_int hkp (by decide) (by decide)⟩
/-- what laid answers -/
def LaidPost (ins regs : Int) (code : List Ins) (outs : List Int) (g : Grid) (w : World) (e : Ending) (w' : World) : Prop :=
  ((¬ ProgOk ins regs code outs ∧ e = .returned (.tuple #[.slice none 0 0, .int .i64 80])) ∨
   (ProgOk ins regs code outs ∧ ¬ FitsG ins g ∧ e = .returned (.tuple #[.slice none 0 0, .int .i64 5])) ∨
   (ProgOk ins regs code outs ∧ FitsG ins g ∧ ∃ rb, w.heap.size ≤ rb ∧ e = .returned (.tuple #[.slice (some ⟨rb, 0, none⟩) regs.toNat regs.toNat, .int .i64 0]) ∧ RegsP w.heap.size w' rb (startG g regs.toNat (g.getD 0 []).length))) ∧ Below w.heap.size w w'
theorem mkRegs (n : Nat) (hn : n ≤ 1099511627776) (w : World) : (Instr.makeSlice 71 (.int .i64 (n : Int)) (.int .i64 (n : Int))).run Tryz.prog w = .ok (.slice (some ⟨w.heap.size, 0, none⟩) n n) (w.alloc (.cells (Array.replicate n (.slice none 0 0)) 43)) := by
  obtain ⟨i0, hi, hz0, hz1, hz2⟩ := info_parts infoRow
  have e : madeCells (Value.slice none 0 0).cells ((n : Int).toNat * 1) = Array.replicate n (.slice none 0 0) := by
    apply Array.ext
    · simp [size_madeCells]
    · intro i h1 h2
      simp [madeCells, Value.cells, Nat.mod_one]
  rw [run_make w _ _ i0 _ Tryz.underlying71 hi hz0 .i64 .i64 n n (by omega) (by omega) (by rw [hz2]; omega) (by omega), hz1, e]
  rfl
theorem regs_new (base : Nat) (w : World) (S : Grid) : RegsP base (w.alloc (.cells (Array.replicate S.length (.slice none 0 0)) 43)) w.heap.size (upG S 0) :=
  ⟨Free.new rfl, typ_fresh rfl, fun k hk => ⟨.slice none 0 0, cell_new rfl (by rw [upG_len (Nat.zero_le _)] at hk; simp [hk]), by
    rw [upG_len (Nat.zero_le _)] at hk
    rw [show (upG S 0).getD k [] = [] by simp [upG, hk]]
    exact IsRow.nil _ _ _ _⟩⟩
theorem zero_row (w : World) {base b m : Nat} (hbb : base ≤ b) (hm : m ≤ 1099511627776) (h : w.heap[b]? = some (Obj.cells (zcel m) 50 (0, 0))) : PRow base w (.slice (some ⟨b, 0, none⟩) m m) (List.replicate m 0) := by
  refine ⟨some ⟨b, 0, none⟩, m, by rw [List.length_replicate], by rw [List.length_replicate]; exact Nat.le_refl _, by unfold maxLen; omega, .inr ⟨b, 0, rfl, hbb, by unfold typOf; rw [h], fun k hk => ?_⟩⟩
  rw [List.length_replicate] at hk
  obtain ⟨h1, h2⟩ := zcel_at hk
  refine ⟨false, none, 0, 0, by rw [Nat.zero_add]; simp [World.cell?, h, h1], by rw [Nat.zero_add]; simp [World.cell?, h, h2], ?_⟩
  dsimp only
  rw [show (List.replicate m (0 : Int)).getD k 0 = 0 by simp [hk]]
  exact isInt_zero _
theorem startN_self {l : List Int} : startN l l.length = l := by simp [startN]
theorem row_of_ints {w : World} {base b : Nat} {l : List Int} (hbb : base ≤ b) (hl : l.length ≤ 1099511627776) (h : IntsF IsInt w b 0 l.length (fun j => (startN l l.length).getD j 0)) (ht : typOf w b = some 50) : PRow base w (.slice (some ⟨b, 0, none⟩) l.length l.length) l := by
  rw [startN_self] at h
  exact ⟨_, _, rfl, Nat.le_refl _, by unfold maxLen; omega, .inr ⟨b, 0, rfl, hbb, ht, h⟩⟩
set_option maxRecDepth 100000 in
set_option maxHeartbeats 16000000 in
theorem laid_c (ins regs : Int) (ca oa : Option Addr) (cc oc : Nat) (code : List Ins) (outs : List Int) (vg : Value) (g : Grid) (w : World) (hc : InsV w ca cc code) (ho : IntsV w oa oc outs) (hg : GridV w vg g) (hm0 : (g.getD 0 []).length ≤ 1099511627776) :
    Calls Tryz.prog 79 #[.agg #[.int .i64 ins, .int .i64 regs, .slice ca code.length cc, .slice oa outs.length oc], vg] w (LaidPost ins regs code outs g w) := by
  have kr := fun W (h : Below w.heap.size w W) => right_c ins regs ca oa cc oc code outs g.length W (hc.keep h) (ho.keep h)
  clear hc ho
  obtain ⟨ga, gc, rfl, hgc, hv⟩ := hg.view
  have HV := Lib.hid hv
  clear hg hv
  have hB := Below.refl w.heap.size w
  go_enter Tryz.func79, Tryz.ntmps79
  go_wp2_with fail
  refine (kr _ (by repeat (first | exact Below.refl _ _ | exact hB | refine Below.drew ?_ | refine below_drewN ?_ _ | refine bset ?_ (by simp <;> omega) _ | refine bal ?_ _))).mono ?_
  rintro e w1 ⟨hp, hb1⟩
  have p1 : w1.cell? ⟨w.heap.size, 1, none⟩ = some (.int .i64 regs) := bkc hb1
  have zp1 := cell_lt p1
  have hB : Below w.heap.size w w1 := bthen (by repeat (first | exact Below.refl _ _ | exact hB | refine Below.drew ?_ | refine below_drewN ?_ _ | refine bset ?_ (by simp <;> omega) _ | refine bal ?_ _)) hb1
  have hz : w.heap.size ≤ w1.heap.size := hB.size
  clear kr
  rcases hp with ⟨hno, rfl⟩ | ⟨hok, hne, rfl⟩ | ⟨hok, hle, rfl⟩
  · have HNO := Lib.hid hno
    clear hno
    go_wp2
    go_ret2
    exact ⟨.inl ⟨HNO.out, rfl⟩, hB⟩
  · have HNO := Lib.hid (And.intro hok hne)
    clear hok hne
    go_wp2
    go_ret2
    exact ⟨.inr (.inl ⟨HNO.out.1, fun f => HNO.out.2 f.len, rfl⟩), hB⟩
  · have HOK := Lib.hid hok
    have HLE := Lib.hid hle
    have h0 : 0 < g.length := by have := hok.i1; omega
    obtain ⟨R, hR⟩ : ∃ R : Nat, regs = R := ⟨regs.toNat, by have := hok.i1; have := hok.i2; omega⟩
    have hgR : g.length ≤ R := by have := hok.i2; omega
    have hR128 : R ≤ 128 := by have := hok.r1; omega
    clear hok hle
    subst hR
    obtain ⟨gb, go, u0, rfl, hu0, hr0⟩ := HV.out 0 h0
    obtain ⟨a0, x0, rfl, -⟩ := hr0
    rw [Nat.add_zero] at hu0
    have zgb : gb < w.heap.size := cell_lt hu0
    have hu := bkeep hB hu0
    have hg0 : (g[0]'h0) = g.getD 0 [] := by simp [h0]
    rw [hg0] at hu
    obtain ⟨m, hm⟩ : ∃ m, (g.getD 0 []).length = m := ⟨_, rfl⟩
    rw [hm] at hu hm0
    have HM := Lib.hid hm
    clear hm hu0 hg0
    have hgp : (0 : Int) < (g.length : Int) := by omega
    have hmk := mkRegs R (by omega)
    have hmi := mkInts m hm0
    have HSL := Lib.hid (startG_len (n := m) hgR)
    go_wp2
    refine wp_name fun w2 hW2 => ?_
    have HR2 : Hid (RegsP w.heap.size w2 w1.heap.size (upG (startG g R m) 0)) := Lib.hid (by
      have := regs_new w.heap.size w1 (startG g R m)
      rw [HSL.out] at this
      rw [hW2]; exact this)
    have hb12 : Below w1.heap.size w1 w2 := by rw [hW2]; exact bal (Below.refl _ _) _
    clear hW2 hmk
    have hsz1 : w.heap.size < w1.heap.size := zp1
    have hsz0 : w.heap.size ≤ w1.heap.size := by omega
    clear hu
    go_loopw [26] (fun x wr => ∃ k : Nat, k ≤ R ∧ x = .int .i64 k ∧ Below w1.heap.size w1 wr ∧ Hid (RegsP w.heap.size wr w1.heap.size (upG (startG g R m) k)) ∧ Hid (∀ j, j < k → j < g.length → (g.getD j []).length = m) ∧ Hid (0 < k → m ≤ 4096)) (fun x _ => R - (intOf x).toNat)
    case atStart => exact ⟨0, Nat.zero_le _, rfl, hb12, HR2, Lib.hid fun j hj => by omega, Lib.hid fun h => by omega⟩
    case round =>
      obtain ⟨k, hk, rfl, hb1r, hR, hJ, hM4⟩ := hrel
      have hBr : Below w.heap.size w wr := hB.trans (hb1r.mono hsz0)
      by_cases hlt : k < R
      · have hltI : (k : Int) < (R : Int) := by omega
        obtain ⟨uo, o0, -⟩ := hR.out.cell k (by rw [upG_len (by rw [HSL.out]; omega), HSL.out]; exact hlt)
        have of0 := hR.out.free.2 k
        have zo := cell_lt o0
        have hRo := Lib.hid (fun j v (h : wr.cell? ⟨w1.heap.size, j, none⟩ = some v) => h)
        have HSET := Lib.hid (upG_set (S := startG g R m) (k := k) (by rw [HSL.out]; exact hlt))
        go_upto_region 10 with (fail)
        refine wp_name fun w3 hW3 => ?_
        have hne : w1.heap.size ≠ wr.heap.size := by omega
        have h3a : Hid (Out (fun q => q = w1.heap.size) wr w3) := Lib.hid (by rw [hW3]; exact ((Out.refl _ wr).set (fun _ => show w1.heap.size = w1.heap.size from rfl) _).alloc _)
        have h3b : Hid (w3.heap[wr.heap.size]? = some (Obj.cells (zcel m) 50 (0, 0))) := Lib.hid (by rw [hW3]; exact heap_fresh (by simp))
        have h3c : Hid (∀ j, j ≠ k → ∀ v, wr.cell? ⟨w1.heap.size, j, none⟩ = some v → w3.cell? ⟨w1.heap.size, j, none⟩ = some v) := Lib.hid (fun j hj v hv => by rw [hW3]; exact cell_alloc (cell_far hv (fun e => hj (by injection e with _ e2; exact e2.symm)) _) _)
        have y0 : w3.cell? ⟨w1.heap.size, k, none⟩ = some (.slice (some ⟨wr.heap.size, 0, none⟩) m m) := by rw [hW3]; exact cell_alloc (cell_here o0 _) _
        have h3d : Hid (Free w3 w1.heap.size ∧ typOf w3 w1.heap.size = some 43) := Lib.hid (by
          rw [hW3]
          exact ⟨(hR.out.free.set _ _).keep (bal (Below.refl _ _) _), typ_keep (by rw [typ_set]; exact hR.out.ty) (bal (Below.refl _ _) _)⟩)
        have h3e : wr.heap.size < w3.heap.size := by rw [hW3]; simp
        clear hW3 o0 of0 uo
        have hb13 : Below w1.heap.size w1 w3 := hb1r.trans (h3a.out.to_below (fun q hq _ e => by omega) hb1r.size)
        have hB3 : Below w.heap.size w w3 := hB.trans (hb13.mono hsz0)
        by_cases hkg : k < g.length
        · have hkgI : (k : Int) < (g.length : Int) := by omega
          obtain ⟨gb', go', u, he, hu, hrow⟩ := HV.out k hkg
          cases he
          have hgk : (g[k]'hkg) = g.getD k [] := by simp [hkg]
          rw [hgk] at hrow
          obtain ⟨l, hl⟩ : ∃ l, g.getD k [] = l := ⟨_, rfl⟩
          rw [hl] at hrow
          have HL := Lib.hid hl
          have hrow3 := Lib.hid (hrow.keep lims_int hB3)
          obtain ⟨ra, rc, rfl, -⟩ := hrow
          have hu3 := bkeep hB3 hu
          clear hu hl hgk
          by_cases hlm : l.length = m
          · have hlmI : ((l.length : Int) != (m : Int)) = false := by rw [hlm]; simp
            have hlmN : (l.length != m) = false := by rw [hlm]; simp
            by_cases hm4 : m ≤ 4096
            · have hm4I : decide ((4096 : Int) < (m : Int)) = false := by simp; omega
              have hm4N : decide (4096 < m) = false := by simp; omega
              have HLM := Lib.hid hlm
              subst hlm
              clear hlmI hlmN
              go_wp2
              go_region_law (refine step_copy_ints (g := wr.heap.size) (R := l.length) (ad := ra) (l := l) (c := rc) (base := 0) rfl rfl rfl rfl (hrow3.out.keep lims_int (Below.refl _ _).drew) (Nat.le_refl _) (show w3.drew.heap[wr.heap.size]? = _ from h3b.out) ?_; intro n4 w4 hI4 hF4 hT4 hO4')
              all_goals
                have hO4 : Out (fun k => k = wr.heap.size) w3 w4 := (Out.of_below _ (Below.refl _ _).drew).trans hO4'
                clear hO4'
                have HP4 := Lib.hid (RegsP.put (k := k) hR.out ((h3a.out.mono fun _ _ h => Or.inl h).then hO4 fun i _ h => Or.inr h)
                  (h3d.out.1.out hO4 hne) (typ_out h3d.out.2 hO4 hne) (fun j hj v hv => okeep hO4 (h3c.out j hj v hv) hne) (okeep hO4 y0 hne) (row_of_ints hBr.size hm0 hI4 hT4))
                have eS : (upG (startG g R l.length) k).set k l = upG (startG g R l.length) (k + 1) := by
                  have e := HSET.out
                  rwa [show (startG g R l.length).getD k [] = l by rw [startG_lo hkg, HL.out]] at e
                rw [eS] at HP4
                clear eS
                clear hI4 hF4 hT4
                have hb14 : Below w1.heap.size w1 w4 := hb13.trans (hO4.to_below (fun q hq _ e => by omega) hb13.size)
                have hJ' : Hid (∀ j, j < k + 1 → j < g.length → (g.getD j []).length = l.length) := Lib.hid fun j h1 h2 => by
                  by_cases e : j = k
                  · subst e; rw [HL.out]
                  · exact hJ.out j (by omega) h2
                have hm5 : Hid (0 < k + 1 → l.length ≤ 4096) := Lib.hid fun _ => hm4
                go_wp2
                exact ⟨⟨k + 1, by omega, by go_num, hb14, HP4, hJ', hm5⟩, by simp [intOf]; omega⟩
            · have hm4I : decide ((4096 : Int) < (m : Int)) = true := by simp; omega
              have hm4N : decide (4096 < m) = true := by simp; omega
              have HNF := Lib.hid (show ¬ FitsG ins g from fun f => by have := f.m; rw [HM.out] at this; exact hm4 this)
              go_wp2
              go_ret2
              exact ⟨.inr (.inl ⟨HOK.out, HNF.out, rfl⟩), hB3⟩
          · have hlmI : ((l.length : Int) != (m : Int)) = true := by simp; omega
            have hlmN : (l.length != m) = true := by simp; omega
            have HNF := Lib.hid (show ¬ FitsG ins g from fun f => by have := f.rect k hkg; rw [HL.out, HM.out] at this; exact hlm this)
            go_wp2
            go_ret2
            exact ⟨.inr (.inl ⟨HOK.out, HNF.out, rfl⟩), hB3⟩
        · have hkgI : ¬ (k : Int) < (g.length : Int) := by omega
          have HN := Lib.hid (show RegsP w.heap.size w3 w1.heap.size (upG (startG g R m) (k + 1)) by
            rw [← HSET.out, startG_hi (by omega) hlt]
            exact RegsP.put hR.out (h3a.out.mono fun _ _ h => Or.inl h) h3d.out.1 h3d.out.2 h3c.out y0 (zero_row _ hBr.size hm0 h3b.out))
          have hm5 : Hid (0 < k + 1 → m ≤ 4096) := Lib.hid fun _ => hM4.out (by omega)
          have hJ' : Hid (∀ j, j < k + 1 → j < g.length → (g.getD j []).length = m) := Lib.hid fun j h1 h2 => hJ.out j (by omega) h2
          go_wp2
          exact ⟨⟨k + 1, by omega, by go_num, hb13, HN, hJ', hm5⟩, by simp [intOf]; omega⟩
      · obtain rfl : k = R := by omega
        have HFI := Lib.hid (show FitsG ins g from ⟨HLE.out, by rw [HM.out]; exact fun j hj => hJ.out j (by omega) hj, by rw [HM.out]; exact hM4.out (by omega)⟩)
        have HRR := Lib.hid (show RegsP w.heap.size wr w1.heap.size (startG g k m) by
          have := hR.out
          have e := upG_all (startG g k m)
          rw [HSL.out] at e
          rw [e] at this
          exact this)
        go_wp2
        go_ret2
        exact ⟨.inr (.inr ⟨HOK.out, HFI.out, w1.heap.size, hsz0, rfl, by rw [HM.out]; exact HRR.out⟩), hBr⟩
end Go.Proofs.YtdllbdfchloijaaGreatDoor

/- The reference: Follow: a program over a grid. -/
namespace Go.Proofs.YtdllbdfchloijaaGreatDoor
open Num
open Go.ChangeShapes Go.WideShapes Go.ChangeAt Go.RowKit
set_option linter.unusedVariables false
set_option linter.unusedSimpArgs false
attribute [local go_sem ↓] Go.wp_at_zero Go.wp_at_succ
/-- the row that the n-th instruction sets -/
def toldR (code : List Ins) (g : Grid) (n : Nat) : List Int :=
  match after code g n with
  | some h => (stepR (code.getD n default) (h.getD (code.getD n default).a.toNat []) (h.getD (code.getD n default).b.toNat [])).getD []
  | none => []
/-- the rows that the first n instructions set -/
def told (code : List Ins) (g : Grid) (n : Nat) : Grid := (List.range n).map (toldR code g)
/-- a list of the call's own (from base on), built by append; base is free -/
def OwnLB {α : Type} (T : TypeId) (Pr : World → Value → α → Prop) (base : Nat) (w : World) (v : Value) (g : List α) : Prop :=
  ∃ xs, w.ownsRow base T 1 v g.length xs ∧ ∀ k (hk : k < g.length), ∃ u, xs[k]? = some u ∧ Pr w u g[k]
section
variable {α : Type} {S S' : TypeId → Prop} {T : TypeId} {Pr : World → Value → α → Prop} {base : Nat} {w0 wr w' : World} {v u : Value} {g : List α} {y : α}
theorem OwnLB.nil (T : TypeId) (Pr : World → Value → α → Prop) (base : Nat) (w : World) : OwnLB T Pr base w (.slice none 0 0) [] := ⟨[], World.ownsRow_nil _ _ _ _, fun k hk => absurd hk (by simp)⟩
theorem OwnLB.keep (hP : Prs S Pr) (h : OwnLB T Pr base wr v g) (hb : Below wr.heap.size wr w') : OwnLB T Pr base w' v g := by
  obtain ⟨xs, h1, h2⟩ := h
  refine ⟨xs, owns_kp (S := fun _ => True) h1 (Kp.of_below _ hb) trivial, fun k hk => ?_⟩
  obtain ⟨u, hu, hr⟩ := h2 k hk
  exact ⟨u, hu, hP.kp hr (Kp.of_below _ hb)⟩
theorem OwnLB.ex (h : OwnLB T Pr base wr v g) : ∃ a c, v = .slice a g.length c := by
  obtain ⟨xs, ⟨_, h1⟩, _⟩ := h
  rcases h1 with ⟨rfl, h0⟩ | ⟨b, cap, cur, rfl, _⟩
  · exact ⟨none, 0, by rw [h0]⟩
  · exact ⟨_, _, rfl⟩
theorem OwnLB.set (hP : Prs S Pr) (h : OwnLB T Pr base wr v g) {p : Addr} {t : TypeId} (ht : typOf wr p.block = some t) (h2 : ¬ S t) (hp : p.block < base) (y : Value) : OwnLB T Pr base (wr.setCell p y) v g := by
  obtain ⟨xs, hO, hx⟩ := h
  have hk : Kp S wr (wr.setCell p y) := (Kp.refl _ _).set (fun t' ht' => by rw [ht] at ht'; cases ht'; exact h2) y
  refine ⟨xs, ownsRow_setCell_other hO ?_ y, fun k hk' => ?_⟩
  · intro hb
    have := (hO.lt _ hb).1
    omega
  · obtain ⟨u, hu, hr⟩ := hx k hk'
    exact ⟨u, hu, hP.kp hr hk⟩
end
section
variable {α : Type} {P : Program} {TT T : TypeId} {bytes : Nat} {S : TypeId → Prop} {Pr : World → Value → α → Prop} {ops : Array Oper} {o : Oper} {a : Act} {Q : Exit → Act → World → Prop} {base : Nat} {wr : World} {v u : Value} {g : List α} {y : α} {s x : Operand} {cc gb : Nat}
end
theorem RegsQ.grown {wr w' : World} {rb base : Nat} {g : Grid} (h : RegsQ wr rb g) (hk : Kp (· ≠ 91) wr w') (ho : Out (fun k => base ≤ k) wr w') (hb : rb < base) : RegsQ w' rb g := by
  have hx : ¬ (base ≤ rb) := by omega
  exact ⟨h.free.out ho hx, typ_out h.ty ho hx, fun j hj => by
    obtain ⟨u, hu, hr⟩ := h.cell j hj
    exact ⟨u, okeep ho hu hx, hr.kp lims_ref hk (by decide) (by decide)⟩⟩
end Go.Proofs.YtdllbdfchloijaaGreatDoor

/- exact: run on rows, told to a loop's body. -/
namespace Go.Proofs.YtdllbdfchloijaaGreatDoor
open Num
open Go.ChangeShapes Go.WideShapes Go.ChangeAt Go.RowKit
set_option linter.unusedVariables false
set_option linter.unusedSimpArgs false
attribute [local go_sem ↓] Go.wp_at_zero Go.wp_at_succ
/-- a row that lies in none of the blocks S -/
def PRowX (S : Nat → Prop) (w : World) (v : Value) (l : List Int) : Prop := PRow 0 w v l ∧ (l = [] ∨ ∀ b, rowBlk v = some b → ¬ S b)
section
variable {S S' : Nat → Prop} {w w' : World} {v : Value} {l : List Int} {base : Nat}
theorem PRowX.keep (h : PRowX S w v l) (k : Below w.heap.size w w') : PRowX S w' v l := ⟨h.1.keep lims_int k, h.2⟩
theorem Soil.lt (h : Soil S w) {q : Nat} (hq : S q) : q < w.heap.size := by obtain ⟨t, ht, _⟩ := h q hq; exact typ_lt ht
theorem PRowX.of (h : PRow base w v l) (hS : ∀ q, S q → q < base) : PRowX S w v l := by
  refine ⟨h.rebase (Nat.zero_le _), ?_⟩
  obtain ⟨a, c, rfl, _, _, h4⟩ := h
  rcases h4 with h4 | ⟨b, off, rfl, hb, _⟩
  · exact .inl h4
  · refine .inr fun q hq hs => ?_
    simp [rowBlk] at hq
    subst hq
    have := hS _ hs
    omega
theorem OutT.lim (h : OutT S w w') (hS : Soil S w) : Lim w w' := fun q ht => by
  have hq : ¬ S q := fun hs => by
    obtain ⟨t, h1, h2⟩ := hS q hs
    rw [ht] at h1; cases h1; exact h2 rfl
  have e := h.1.block q (typ_lt ht) hq
  exact ⟨by rw [typ_of_block (w := w) e]; exact ht, fun o n hc => by rw [World.cell?_of_block (w := w) e]; exact hc⟩
theorem PRowX.told (h : PRowX S w v l) (ho : OutT S w w') (hS : Soil S w) (hg : Grew S S' w) : PRowX S' w' v l := by
  obtain ⟨⟨a, c, rfl, h1, h2, h4⟩, hx⟩ := h
  rcases h4 with h4 | ⟨b, off, rfl, hb, ht, hi⟩
  · exact ⟨⟨a, c, rfl, h1, h2, .inl h4⟩, .inl h4⟩
  · rcases hx with hx | hx
    · exact ⟨⟨_, c, rfl, h1, h2, .inl hx⟩, .inl hx⟩
    · have hn : ¬ S b := hx b rfl
      have e := ho.1.block b (typ_lt ht) hn
      refine ⟨⟨_, c, rfl, h1, h2, .inr ⟨b, off, rfl, hb, by rw [typ_of_block (w := w) e]; exact ht, hi.stay lims_int e (ho.lim hS)⟩⟩, .inr fun q hq hs => ?_⟩
      simp [rowBlk] at hq
      subst hq
      rcases hg _ hs with h | h
      · exact hn h
      · have := typ_lt ht; omega
end
/-- the registers in a block that may be written; their rows lie in none of the blocks S -/
structure RegsX (S : Nat → Prop) (w : World) (rb : Nat) (g : Grid) : Prop where
  free : Free w rb
  ty : typOf w rb = some 43
  cell : ∀ k, k < g.length → ∃ u, w.cell? ⟨rb, k, none⟩ = some u ∧ PRowX S w u (g.getD k [])
section
variable {S S' : Nat → Prop} {w w' : World} {rb base : Nat} {g : Grid}
theorem RegsX.regs (h : RegsX S w rb g) : RegsP 0 w rb g := ⟨h.free, h.ty, fun k hk => by obtain ⟨u, hu, hr⟩ := h.cell k hk; exact ⟨u, hu, hr.1⟩⟩
theorem RegsX.keep (h : RegsX S w rb g) (k : Below w.heap.size w w') : RegsX S w' rb g :=
  ⟨h.free.keep k, typ_keep h.ty k, fun j hj => by obtain ⟨u, hu, hr⟩ := h.cell j hj; exact ⟨u, bkeep k hu, hr.keep k⟩⟩
theorem RegsX.of (h : RegsP base w rb g) (hS : ∀ q, S q → q < base) : RegsX S w rb g :=
  ⟨h.free, h.ty, fun j hj => by obtain ⟨u, hu, hr⟩ := h.cell j hj; exact ⟨u, hu, .of hr hS⟩⟩
theorem RegsX.told (h : RegsX S w rb g) (hr : ¬ S rb) (ho : OutT S w w') (hS : Soil S w) (hg : Grew S S' w) : RegsX S' w' rb g :=
  ⟨h.free.out ho.1 hr, typ_outK h.ty ho.1 hr, fun j hj => by obtain ⟨u, hu, hr'⟩ := h.cell j hj; exact ⟨u, okeep ho.1 hu hr, hr'.told ho hS hg⟩⟩
theorem RegsX.step {nt : Nat} {v : Value} {r : List Int} (h : RegsX S w rb g) (hv : PRowX S w v r) (ht : nt < g.length) : RegsX S (w.setCell ⟨rb, nt, none⟩ v) rb (g.set nt r) := by
  have hk : Kp (· ≠ 43) w (w.setCell ⟨rb, nt, none⟩ v) := (Kp.refl _ w).set (fun t ht => by rw [h.ty] at ht; cases ht; exact fun k => k rfl) _
  have hp : ∀ {u : Value} {l : List Int}, PRowX S w u l → PRowX S (w.setCell ⟨rb, nt, none⟩ v) u l := fun h => ⟨h.1.kp lims_int hk (by decide) (by decide), h.2⟩
  refine ⟨h.free.set _ _, by rw [typ_set]; exact h.ty, fun k hk' => ?_⟩
  rw [List.length_set] at hk'
  by_cases e : nt = k
  · subst e
    obtain ⟨u, hu, _⟩ := h.cell nt hk'
    refine ⟨v, cell_here hu _, ?_⟩
    have : (g.set nt r).getD nt [] = r := by simp [hk']
    rw [this]
    exact hp hv
  · obtain ⟨u, hu, hr⟩ := h.cell k hk'
    refine ⟨u, cell_far hu (fun e2 => e (by cases e2; rfl)) _, ?_⟩
    have : (g.set nt r).getD k [] = g.getD k [] := by simp [List.getElem?_set_ne e]
    rw [this]
    exact hp hr
end
/-- how many instructions are told -/
structure ToldG (code : List Ins) (g : Grid) (m : Nat) : Prop where
  le : m ≤ code.length
  has : ∃ h, after code g m = some h
  stop : m < code.length → after code g (m + 1) = none
theorem ToldG.lt {code : List Ins} {g h : Grid} {m n : Nat} (t : ToldG code g m) (hn : n < code.length) (e : after code g (n + 1) = some h) (hm : n ≤ m) : n < m := by
  rcases Nat.lt_or_ge n m with h1 | h1
  · exact h1
  · obtain rfl : n = m := by omega
    rw [t.stop hn] at e; cases e
theorem ToldG.eq {code : List Ins} {g : Grid} {m n : Nat} (t : ToldG code g m) (e : after code g (n + 1) = none) (hm : n ≤ m) : n = m := by
  rcases Nat.lt_or_ge n m with h1 | h1
  · obtain ⟨s, hs⟩ := t.has
    rw [after_mono e (show n + 1 ≤ m by omega)] at hs; cases hs
  · omega
end Go.Proofs.YtdllbdfchloijaaGreatDoor

/- The reference's Powers; is. -/
namespace Go.Proofs.YtdllbdfchloijaaGreatDoor
open Pt Num
open Go.ChangeShapes Go.WideShapes Go.ChangeAt Go.RowKit
set_option linter.unusedVariables false
set_option linter.unusedSimpArgs false

theorem powF_snoc (a b : Int) (n j : Nat) : ∀ i, i < j + 1 → (if i = j then a ^ j * b ^ (n - 1 - j) else powF a b n i) = powF a b n i := fun i _ => by
  unfold powF
  by_cases h : i = j
  · subst h; simp
  · rw [if_neg h]
theorem OwnF.congr {R : World → Value → Int → Prop} {E : TypeId} {w0 wr : World} {v : Value} {n : Nat} {f f' : Nat → Int} (h : OwnF R E w0 wr v n f) (he : ∀ k, k < n → f k = f' k) : OwnF R E w0 wr v n f' := by
  obtain ⟨xs, h1, h2⟩ := h
  exact ⟨xs, h1, fun k hk => by rw [← he k hk]; exact h2 k hk⟩

theorem OwnF.rebase {R : World → Value → Int → Prop} {E : TypeId} {w w0 wr : World} {v : Value} {n : Nat} {f : Nat → Int} (h : OwnF R E w0 wr v n f) (hb : Below w.heap.size w w0) : OwnF R E w wr v n f := by
  obtain ⟨xs, ⟨⟨hl, h1⟩, hB⟩, h2⟩ := h
  refine ⟨xs, ⟨⟨hl, ?_⟩, bthen hb hB⟩, h2⟩
  rcases h1 with h1 | ⟨g, cap, cur, hv, hg, hr⟩
  · exact .inl h1
  · exact .inr ⟨g, cap, cur, hv, Nat.le_trans hb.size hg, hr⟩
set_option maxRecDepth 100000 in
set_option maxHeartbeats 8000000 in
theorem refPow_c (a b : Int) (n : Nat) (w : World) (hp : PIn a b) (hn : n ≤ 16) :
    Calls Tryz.prog 42 #[pv a b, .int .i64 (n : Int)] w fun e w' => ∃ v, e = .returned v ∧ OwnF IsRef 54 w w' v n (powF a b n) := by
  have ba := bd_pt hp.1 hp.2.1
  have bb := bd_pt hp.2.2.1 hp.2.2.2
  have oca := fun w => rof_c a w (by have := hp.1; omega) (by have := hp.2.1; omega)
  have ocb := fun w => rof_c b w (by have := hp.2.2.1; omega) (by have := hp.2.2.2; omega)
  have pca := fun v j w h hj => rpow_c v a 5 j w h ba hj (by omega)
  have pcb := fun v j w h hj => rpow_c v b 5 j w h bb hj (by omega)
  have mc := fun u v i j w h1 h2 hi hj => rmul_c u v (a ^ i) (b ^ j) (i * 5 + 1) (j * 5 + 1) w h1 h2 (ba.pow i) (bb.pow j) hi hj
  clear ba bb hp
  have hB := Below.refl w.heap.size w
  go_enter Tryz.func42, Tryz.ntmps42
  go_wp2
  refine wp_name fun w0 hW0 => ?_
  have g0 : w0.cell? ⟨w.heap.size, 0, none⟩ = some (.int .i64 a) := by rw [hW0]; exact (by first | assumption | exact cell_new (by with_reducible first | rfl | (simp; done) | (simp; omega)) rfl | (repeat (first | assumption | exact cell_new (by with_reducible first | rfl | (simp; done) | (simp; omega)) rfl | refine cell_alloc ?_ _ | refine cell_drew ?_ | refine cell_drewN ?_ _ | refine cell_far ?_ (by simp) _ | (refine cell_far ?_ (by simp <;> omega) _))) | simp [go_sem, *])
  have zg0 := cell_lt g0
  have g1 : w0.cell? ⟨w.heap.size, 1, none⟩ = some (.int .i64 b) := by rw [hW0]; exact (by first | assumption | exact cell_new (by with_reducible first | rfl | (simp; done) | (simp; omega)) rfl | (repeat (first | assumption | exact cell_new (by with_reducible first | rfl | (simp; done) | (simp; omega)) rfl | refine cell_alloc ?_ _ | refine cell_drew ?_ | refine cell_drewN ?_ _ | refine cell_far ?_ (by simp) _ | (refine cell_far ?_ (by simp <;> omega) _))) | simp [go_sem, *])
  have hB : Below w.heap.size w w0 := by rw [hW0]; repeat (first | exact Below.refl _ _ | exact hB | refine Below.drew ?_ | refine below_drewN ?_ _ | refine bset ?_ (by simp <;> omega) _ | refine bal ?_ _)
  have hz : w.heap.size ≤ w0.heap.size := hB.size
  clear hW0
  have HB0 := Lib.hid hB
  go_loopw [5, 6] (fun d y wr => ∃ j : Nat, j ≤ n ∧ y = .int .i64 j ∧ OwnF IsRef 54 w0 wr d j (powF a b n)) (fun _ y _ => n - (intOf y).toNat)
  case atStart => exact ⟨0, Nat.zero_le _, rfl, OwnF.nil _ _ _ (Below.refl _ _)⟩
  case round =>
    obtain ⟨j, hj, rfl, hO⟩ := hrel
    by_cases hjn : j < n
    · have e1 : IntKind.i64.wrap ((n : Int) - 1) = ((n - 1 : Nat) : Int) := by rw [IntKind.wrap_i64]; omega
      have e2 : IntKind.i64.wrap (((n - 1 : Nat) : Int) - (j : Int)) = ((n - 1 - j : Nat) : Int) := by rw [IntKind.wrap_i64]; omega
      have hm2 : n - 1 - j ≤ 16 := by omega
      have HN := Lib.hid (powF_snoc a b n j)
      generalize n - 1 - j = m2 at *
      generalize n - 1 = m1 at *
      have hBc : Below w0.heap.size w0 wr.drew := hO.bel.drew
      have g0r := bkeep hO.bel g0
      have g1r := bkeep hO.bel g1
      replace hO := hO.below lims_ref (Below.refl _ _).drew
      go_wp2
      go_region_held3 (fun w' => w'.cell? ⟨w.heap.size, 0, none⟩ = some (.int .i64 a) ∧ w'.cell? ⟨w.heap.size, 1, none⟩ = some (.int .i64 b))
        (first | exact ⟨g0r, g1r⟩ | exact ⟨bkeep hBc g0, bkeep hBc g1⟩ | exact ⟨cell_alloc (bkeep hBc g0) _, cell_alloc (bkeep hBc g1) _⟩ | exact ⟨bkeep hO2.bel g0, bkeep hO2.bel g1⟩)
        (first
          | (refine step_num0 elRef (by decide) lims_ref (by rfl) (by rfl) hO HVA.out (by rfl) (by rfl) (by omega) ?_; intro v' w8 hO2 hL2 hOut2; replace hO2 := hO2.congr HN.out)
          | (go_at_call 54; with_reducible refine (oca _).mono ?_; rintro e w7 ⟨⟨vA, rfl, hA⟩, hb7⟩; (replace hBc := bthen hBc hb7); (replace hO := hO.below lims_ref hb7); (try (replace HVB := Lib.hid (HVB.out.keep hb7))); (have HVA := Lib.hid hA); clear hA)
          | (go_at_call 54; with_reducible refine (ocb _).mono ?_; rintro e w7 ⟨⟨vB, rfl, hA⟩, hb7⟩; (replace hBc := bthen hBc hb7); (replace hO := hO.below lims_ref hb7); (try (replace HVA := Lib.hid (HVA.out.keep hb7))); (have HVB := Lib.hid hA); clear hA)
          | (go_at_call 76; with_reducible refine (pca _ j _ HVA.out (by omega) (by omega)).mono ?_; rintro e w7 ⟨⟨vA, rfl, hA⟩, hb7⟩; (replace hBc := bthen hBc hb7); (replace hO := hO.below lims_ref hb7); (try (replace HVB := Lib.hid (HVB.out.keep hb7))); (have HVA := Lib.hid hA); clear hA)
          | (go_at_call 76; with_reducible refine (pcb _ m2 _ HVB.out (by omega) (by omega)).mono ?_; rintro e w7 ⟨⟨vB, rfl, hA⟩, hb7⟩; (replace hBc := bthen hBc hb7); (replace hO := hO.below lims_ref hb7); (try (replace HVA := Lib.hid (HVA.out.keep hb7))); (have HVB := Lib.hid hA); clear hA)
          | (go_at_call 53; refine (mc _ _ j m2 _ HVA.out HVB.out (by omega) (by omega)).mono ?_; rintro e w7 ⟨⟨vA, rfl, hA⟩, hb7⟩; (replace hBc := bthen hBc hb7); (replace hO := hO.below lims_ref hb7); (have HVA := Lib.hid hA); (obtain ⟨n5, a5, c5, l5, rfl, -⟩ := hA); unfold iv at *))
      go_wp2
      exact ⟨⟨j + 1, by omega, by go_num, hO2⟩, by simp [intOf]; omega⟩
    · obtain rfl : j = n := by omega
      have HO := Lib.hid (hO.rebase HB0.out)
      go_wp2
      go_ret
      exact ⟨_, rfl, HO.out⟩

end Go.Proofs.YtdllbdfchloijaaGreatDoor

/- PointPowers: the law. -/
namespace Go.Proofs.YtdllbdfchloijaaGreatDoor
open Pt Num
open Go.ChangeShapes Go.WideShapes Go.ChangeAt Go.RowKit
set_option linter.unusedVariables false
set_option linter.unusedSimpArgs false

theorem powF_bd (a b : Int) (n i : Nat) (hp : PIn a b) (hn : n ≤ 16) (hi : i < n) : Bd 200 (powF a b n i) := by
  unfold powF
  exact (((bd_pt hp.1 hp.2.1).pow i).mul ((bd_pt hp.2.2.1 hp.2.2.2).pow (n - 1 - i))).mono (by omega)
end Go.Proofs.YtdllbdfchloijaaGreatDoor

/- Arguments as they come in, opened: a program; rows of int64; what their bulk gives. -/
namespace Go.Proofs.YtdllbdfchloijaaGreatDoor
open Go.ChangeShapes Go.WideShapes Go.ChangeAt Go.RowKit Go.Joins Go.Deep
set_option linter.unusedVariables false
set_option linter.unusedSimpArgs false
namespace bulks
theorem one_le {H : Type} (d : DataW H) : 1 ≤ Rows.uptoBulk d := by
  cases d with
  | lit l => cases l <;> simp [Rows.uptoBulk]
  | nil => simp [Rows.uptoBulk]
  | ptr d => simp [Rows.uptoBulk]
  | slice elems spare => simp [Rows.uptoBulk]
  | agg parts => simp [Rows.uptoBulk]
  | iface t d => simp [Rows.uptoBulk]
  | map entries => simp [Rows.uptoBulk]
  | held h => simp [Rows.uptoBulk]
theorem length_le {H : Type} (l : List (DataW H)) : l.length ≤ Rows.uptoBulkAll l := by
  induction l with
  | nil => simp [Rows.uptoBulkAll]
  | cons x r ih => have := one_le x; simp only [Rows.uptoBulkAll, List.length_cons]; omega
end bulks
section
variable {H : Type} {enc : TypeId × Value → H} {P : Program} {w : World} {base : Nat} {spare : Nat → Bool} {held : Bool}
theorem open_slice_fields {t e : TypeId} {fs : Array Field} {fuel : Nat} {cs : List Value} {x : DataW H × List MemPlace} (ht : P.underlying t = some (.slice e)) (he : P.underlying e = some (.struct fs))
    (hone : oneCellFields P fs = true) (hC : P.cellsOf e = fs.size) (h : DataW.trod enc P w base spare held fuel t cs = some x) :
    (cs = [.slice none 0 0] ∧ x = (.nil, [])) ∨
    ∃ (a : Addr) (len cap m : Nat) (D : Nat → DataW H) (Pl : Nat → List MemPlace), cs = [.slice (some a) len cap] ∧ base ≤ a.block ∧ len ≤ cap ∧ cap ≤ maxLen ∧ m = (if spare a.block then cap else len) ∧
      x = (.slice ((List.range len).map D) ((List.range (m - len)).map fun j => D (len + j)), MemPlace.row a (m * fs.size) ++ (List.range m).flatMap Pl) ∧
      ∀ i, i < m → ∃ (ys : List (DataW H × List MemPlace)) (n : Nat), D i = .agg (ys.map (·.1)) ∧ Pl i = ys.flatMap (·.2) ∧ ys.length = fs.size ∧
        ∀ (j : Nat) (f : Field), fs[j]? = some f → ∃ (v : Value) (y : DataW H × List MemPlace), w.cell? (a.add (i * fs.size + j)) = some v ∧ ys[j]? = some y ∧ DataW.trod enc P w base spare held n f.type [v] = some y := by
  rcases open_slice ht h with h0 | ⟨a, len, cap, m, n, D, Pl, hcs, hb, hl, hm, hmm, hx, hi⟩
  · exact .inl h0
  · refine .inr ⟨a, len, cap, m, D, Pl, hcs, hb, hl, hm, hmm, by rw [hC] at hx; exact hx, fun i him => ?_⟩
    obtain ⟨cs', hc, ht'⟩ := hi i him
    rw [hC] at hc
    obtain ⟨ys, n', hn', hy, hlen, hyl, hf⟩ := DataW.trod_struct he ht'
    obtain ⟨_, hcl, hat⟩ := World.cells?_some hc
    simp only [Prod.mk.injEq] at hy
    refine ⟨ys, n', hy.1, hy.2, hyl, fun j f hj => ?_⟩
    obtain ⟨ho, hk⟩ := hone_of hone j f hj
    have hjl : j < fs.size := (Array.getElem?_eq_some_iff.1 hj).1
    have hcell := hat j hjl
    have hv : cs'[j]? = some (cs'[j]'(by omega)) := List.getElem?_eq_getElem (by omega)
    have h1 := hf j f hj
    rw [ho, hk] at h1
    have hone' : (cs'.drop j).take 1 = [cs'[j]'(by omega)] := by
      rw [List.drop_eq_getElem_cons (by omega)]
      rfl
    rw [hone'] at h1
    have hys : ys[j]? = some (ys[j]'(by omega)) := List.getElem?_eq_getElem (by omega)
    refine ⟨_, _, ?_, hys, h1.trans hys⟩
    rw [← Go.Deep.add_add, hcell, hv]
end
/-- what an address is, of which a cell is known -/
theorem addr_plain {w : World} {a : Addr} {v : Value} (h : w.cell? a = some v) : a = ⟨a.block, a.off, none⟩ := by
  obtain ⟨b, o, s⟩ := a
  cases s with
  | none => rfl
  | some s =>
    simp only [World.cell?] at h
    split at h <;> simp at h
theorem add_plain (b o k : Nat) : (⟨b, o, none⟩ : Addr).add k = ⟨b, o + k, none⟩ := by
  unfold Addr.add; split
  · subst_vars; rfl
  · rfl
/-- an address, the first cell behind which is known -/
theorem plain_at {w : World} {a : Addr} {v : Value} (h : w.cell? (a.add 0) = some v) : ∃ b o, a = ⟨b, o, none⟩ := by
  have h2 : w.cell? a = some v := by simpa [Addr.add] using h
  exact ⟨_, _, addr_plain h2⟩
section
variable {H : Type} {enc : TypeId × Value → H} {W : World} {b0 : Nat} {r : Reach} {v : Value} {d : DataW H} {p : List MemPlace}
theorem i64_of {n : Int} (h : (Lit.int .i64 n).wf = true) : I64 n := by
  have h1 := (Lit.wf_int_iff .i64 n).1 h
  have e1 : IntKind.i64.min = -9223372036854775808 := by decide
  have e2 : IntKind.i64.max = 9223372036854775807 := by decide
  rw [e1, e2] at h1
  exact h1
end
end Go.Proofs.YtdllbdfchloijaaGreatDoor

