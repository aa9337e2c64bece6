/- Texts of this seat, laid together: ExI, ExJ. Each opens with its own remark, which says what it proves, and under which conditions. -/
import Derived.Test.YtdllbdfchloijaaGreatDoorE23
import Derived.Test.YtdllbdfchloijaaGreatDoorE19
import Derived.Deep.RegionLaw
import Derived.Test.YtdllbdfchloijaaGreatDoorE14
set_option linter.unusedVariables false
set_option linter.unusedSimpArgs false
/- exact: laid: the registers over a grid. -/
namespace Go.Proofs.YtdllbdfchloijaaGreatDoor
open Num
open Go.ChangeShapes Go.WideShapes Go.ChangeAt Go.RowKit
set_option linter.unusedVariables false
set_option linter.unusedSimpArgs false
attribute [local go_sem ↓] Go.wp_at_zero Go.wp_at_succ
set_option maxRecDepth 100000 in
theorem copy_key {w : World} {g R c base : Nat} {ad : Option Addr} {l : List Int} (ty : TypeId) (hv : PRow base w (.slice ad l.length c) l) (hl : l.length ≤ R) (hg : w.heap[g]? = some (Obj.cells (zcel R) 50 (0, 0))) :
    ∃ n w', (Builtin.copy_ #[43, 43] ty #[.slice (some ⟨g, 0, none⟩) R R, .slice ad l.length c]).run Tryz.prog w = .ok n w' ∧ IntsF IsInt w' g 0 R (fun j => (startN l R).getD j 0) ∧ Free w' g ∧ typOf w' g = some 50 ∧ Out (fun k => k = g) w w' := by
  obtain ⟨i0, z0, hi, hz0, hz1, hz2, hz3⟩ := elInt.info
  obtain ⟨a', c', he, h2, h3, h4⟩ := hv
  obtain ⟨rfl, -, rfl⟩ := Value.slice.inj he
  have hty : typOf w g = some 50 := by unfold typOf; rw [hg]
  have hzs : (zcel R).size = R * 2 := by simp [zcel, size_madeCells]
  have hm : Nat.min l.length R = l.length := Nat.min_eq_left hl
  rcases h4 with rfl | ⟨b, off, rfl, hb, ht, hi'⟩
  · refine ⟨goInt 0, w, ?_, ?_, ?_, hty, Out.refl _ _⟩
    · cases ad with
      | none => simp [Builtin.copy_, run_underlying Tryz.underlying43, Builtin.lenOf, Builtin.firstCells, sizeOf, typeInfo, hi, storeCells]
      | some q => simp [Builtin.copy_, run_underlying Tryz.underlying43, Builtin.lenOf, Builtin.firstCells, sizeOf, typeInfo, hi, storeCells, loadCells, loadCellsFrom]
    · intro k hk
      obtain ⟨e1, e2⟩ := zcel_at hk
      refine ⟨false, none, 0, 0, by simp [World.cell?, hg, e1], by simp [World.cell?, hg, e2], ?_⟩
      show IsInt w _ ((startN [] R).getD k 0)
      rw [startN_ge (by simp)]; exact isInt_zero _
    · exact ⟨(Array.getElem?_eq_some_iff.1 hg).1, fun j => by simp [World.frozen?, hg]⟩
  · have hl2 : (cellsAt w b off (l.length * 2)).length = l.length * i0.size := by rw [cellsAt_len, hz1]
    have hsrc : ∀ j u, (cellsAt w b off (l.length * 2))[j]? = some u → w.cell? ((⟨b, off, none⟩ : Addr).add j) = some u := cellsAt_at (Below.refl _ _) fun j hj => by obtain ⟨v, hv, _⟩ := intsF_cells hi' j hj; exact ⟨v, hv⟩
    have hf := run_firstCells_some (P := Tryz.prog) w i0.size l.length ⟨b, off, none⟩ l.length c _ hl2 hsrc
    have hst := run_storeCells_at Tryz.prog g 0 _ (cellsAt w b off (l.length * 2)) 0 (zcel R) w hg (by rw [cellsAt_len, hzs]; omega) (cellsAt_all (intsF_cells hi'))
    refine ⟨goInt l.length, w.setRow g ((zcel R).toList.take (0 + 0) ++ cellsAt w b off (l.length * 2) ++ (zcel R).toList.drop (0 + 0 + (cellsAt w b off (l.length * 2)).length)).toArray, by simp [Builtin.copy_, run_underlying Tryz.underlying43, Builtin.lenOf, sizeOf, typeInfo, hi, hm, hf, hst], ?_⟩
    have hh := setRow_heap w g (zcel R) ((zcel R).toList.take (0 + 0) ++ cellsAt w b off (l.length * 2) ++ (zcel R).toList.drop (0 + 0 + (cellsAt w b off (l.length * 2)).length)).toArray _ _ hg
    have hO : Out (fun k => k = g) w (w.setRow g ((zcel R).toList.take (0 + 0) ++ cellsAt w b off (l.length * 2) ++ (zcel R).toList.drop (0 + 0 + (cellsAt w b off (l.length * 2)).length)).toArray) := ⟨rfl, rfl, rfl, by simp [World.setRow], fun k hk hx => setRow_other w g k _ hx⟩
    have hLim : Lim w (w.setRow g ((zcel R).toList.take (0 + 0) ++ cellsAt w b off (l.length * 2) ++ (zcel R).toList.drop (0 + 0 + (cellsAt w b off (l.length * 2)).length)).toArray) := (Kp.out (S := (· ≠ 50)) hO (fun q t hq ht k => by subst hq; rw [hty] at ht; exact k (Option.some.inj ht).symm)).lim (by decide)
    refine ⟨fun k hk => ?_, ⟨(Array.getElem?_eq_some_iff.1 hh).1, fun j => by unfold World.frozen?; rw [show (World.setRow w g _).heap[(⟨g, j, none⟩ : Addr).block]? = _ from hh]; simp⟩, by unfold typOf; rw [hh], hO⟩
    have cel : ∀ j, (w.setRow g ((zcel R).toList.take (0 + 0) ++ cellsAt w b off (l.length * 2) ++ (zcel R).toList.drop (0 + 0 + (cellsAt w b off (l.length * 2)).length)).toArray).cell? ⟨g, j, none⟩ = (cellsAt w b off (l.length * 2) ++ (zcel R).toList.drop (l.length * 2))[j]? := fun j => by
      rw [cell_of_row _ g j _ _ _ hh]; simp [cellsAt_len]
    by_cases e : k < l.length
    · obtain ⟨nb, q, len, cq, k1, k2, k3⟩ := hi' k e
      refine ⟨nb, q, len, cq, ?_, ?_, ?_⟩
      · rw [cel, Nat.zero_add, List.getElem?_append_left (by rw [cellsAt_len]; omega)]; exact cellsAt_get (by omega) k1
      · rw [cel, Nat.zero_add, List.getElem?_append_left (by rw [cellsAt_len]; omega)]; exact cellsAt_get (by omega) k2
      · show IsInt _ _ ((startN l R).getD k 0)
        rw [startN_lt e]; exact lims_int _ _ _ _ k3 hLim
    · obtain ⟨e1, e2⟩ := zcel_at hk
      refine ⟨false, none, 0, 0, ?_, ?_, ?_⟩
      · rw [cel, Nat.zero_add, List.getElem?_append_right (by rw [cellsAt_len]; omega), cellsAt_len, List.getElem?_drop, show l.length * 2 + (k * 2 - l.length * 2) = k * 2 by omega, Array.getElem?_toList]; exact e1
      · rw [cel, Nat.zero_add, List.getElem?_append_right (by rw [cellsAt_len]; omega), cellsAt_len, List.getElem?_drop, show l.length * 2 + (k * 2 + 1 - l.length * 2) = k * 2 + 1 by omega, Array.getElem?_toList]; exact e2
      · show IsInt _ _ ((startN l R).getD k 0)
        rw [startN_ge (by omega)]; exact isInt_zero _

/-- copy of a row into a new one, as a step of a region that draws its order -/
theorem step_copy_ints {ops : Array Oper} {o : Oper} {a : Act} {w : World} {K : Act → World → Prop} {Q : Exit → Act → World → Prop} {E : Prop} {d x : Operand} (hgd : o.guard = none) (ho : o.op = .call { callee := .builtin .copy, args := #[d, x], argTypes := #[43, 43] }) {g R c base : Nat} {ad : Option Addr} {l : List Int}
    (hd : a.eval d = .slice (some ⟨g, 0, none⟩) R R) (hs : a.eval x = .slice ad l.length c) (hv : PRow base w (.slice ad l.length c) l) (hl : l.length ≤ R) (hg : w.heap[g]? = some (Obj.cells (zcel R) 50 (0, 0)))
    (h : ∀ n w', IntsF IsInt w' g 0 R (fun j => (startN l R).getD j 0) → Free w' g → typOf w' g = some 50 → Out (fun k => k = g) w w' → K (a.put o.dst n) w') : if Region.wanted o (yielded ops a.tmps) = true then Oper.wp Tryz.prog o a w K Q else E := by
  have hw : Region.wanted o (yielded ops a.tmps) = true := by simp [Region.wanted, hgd]
  rw [if_pos hw]
  obtain ⟨n, w', hr, h1, h2, h3, h4⟩ := copy_key o.type hv hl hg
  unfold Oper.wp
  simp [execOp, ho, resolve, invoke, builtin, hd, hs, hr, Result.andThen]
  exact h n w' h1 h2 h3 h4
theorem heap_fresh {w : World} {o : Obj} {n : Nat} (h : n = w.heap.size) : (w.alloc o).heap[n]? = some o := by subst h; exact (MapKept.heap_alloc w o).1
theorem typ_out {X : Nat → Prop} {a b : World} {g : Nat} {t : TypeId} (h : typOf a g = some t) (ho : Out X a b) (hx : ¬ X g) : typOf b g = some t := by
  rw [typ_of_block (w := a) (ho.block g (typ_lt h) hx)]; exact h
/-- registers, of which the first k are laid -/
def upG (S : Grid) (k : Nat) : Grid := S.take k ++ List.replicate (S.length - k) []
theorem upG_len {S : Grid} {k : Nat} (h : k ≤ S.length) : (upG S k).length = S.length := by simp [upG]; omega
theorem upG_all (S : Grid) : upG S S.length = S := by simp [upG]
theorem upG_set {S : Grid} {k : Nat} (h : k < S.length) : (upG S k).set k (S.getD k []) = upG S (k + 1) := by
  unfold upG
  apply List.ext_getElem?
  intro j
  rw [List.getElem?_set]
  have hl : (S.take k ++ List.replicate (S.length - k) ([] : List Int)).length = S.length := by simp; omega
  have hgk : S.getD k [] = S[k] := by simp [h]
  by_cases e : k = j
  · subst e
    rw [if_pos rfl, if_pos (by rw [hl]; exact h), List.getElem?_append_left (by simp; omega), List.getElem?_take_of_lt (by omega), hgk]
    exact (List.getElem?_eq_getElem h).symm
  · rw [if_neg e]
    by_cases e2 : j < k
    · rw [List.getElem?_append_left (by simp; omega), List.getElem?_append_left (by simp; omega), List.getElem?_take_of_lt e2, List.getElem?_take_of_lt (by omega)]
    · rw [List.getElem?_append_right (by simp; omega), List.getElem?_append_right (by simp; omega)]
      simp only [List.length_take, List.getElem?_replicate]
      have h1 : min k S.length = k := by omega
      have h2 : min (k + 1) S.length = k + 1 := by omega
      rw [h1, h2]
      by_cases e3 : j < S.length
      · rw [if_pos (by omega), if_pos (by omega)]
      · rw [if_neg (by omega), if_neg (by omega)]
theorem startG_lo {g : Grid} {R m k : Nat} (h : k < g.length) : (startG g R m).getD k [] = g.getD k [] := by
  unfold startG; simp [List.getD_eq_getElem?_getD, List.getElem?_append_left h]
theorem startG_hi {g : Grid} {R m k : Nat} (h : g.length ≤ k) (h2 : k < R) : (startG g R m).getD k [] = List.replicate m 0 := by
  unfold startG; rw [List.getD_eq_getElem?_getD, List.getElem?_append_right h, List.getElem?_replicate, if_pos (by omega)]; rfl
/-- one register is set, to a row in a new block -/
theorem RegsP.put {w W : World} {base rb k : Nat} {G : Grid} {u : Value} {r : List Int} (h : RegsP base w rb G) (ho : Out (fun q => q = rb ∨ q = w.heap.size) w W) (hf : Free W rb) (ht : typOf W rb = some 43)
    (hc : ∀ j, j ≠ k → ∀ v, w.cell? ⟨rb, j, none⟩ = some v → W.cell? ⟨rb, j, none⟩ = some v) (hk : W.cell? ⟨rb, k, none⟩ = some u) (hu : PRow base W u r) : RegsP base W rb (G.set k r) := by
  have hkp : Kp (· ≠ 43) w W := Kp.out ho (fun q t hq ht' hs => by
    rcases hq with rfl | rfl
    · rw [h.ty] at ht'; exact hs (Option.some.inj ht').symm
    · exact absurd (typ_lt ht') (by omega))
  refine ⟨hf, ht, fun j hj => ?_⟩
  rw [List.length_set] at hj
  by_cases e : k = j
  · subst e
    exact ⟨u, hk, by rw [show (G.set k r).getD k [] = r by simp [hj]]; exact hu⟩
  · obtain ⟨v, hv, hr⟩ := h.cell j hj
    exact ⟨v, hc j (Ne.symm e) v hv, by rw [show (G.set k r).getD j [] = G.getD j [] by simp [List.getElem?_set_ne e]]; exact hr.kp lims_int hkp (by decide) (by decide)⟩
/-- what laid answers -/
def LaidPost (ins regs : Int) (code : List Ins) (outs : List Int) (g : Grid) (w : World) (e : Ending) (w' : World) : Prop :=
  ((¬ ProgOk ins regs code outs ∧ e = .returned (.tuple #[.slice none 0 0, .int .i64 80])) ∨
   (ProgOk ins regs code outs ∧ ¬ FitsG ins g ∧ e = .returned (.tuple #[.slice none 0 0, .int .i64 5])) ∨
   (ProgOk ins regs code outs ∧ FitsG ins g ∧ ∃ rb, w.heap.size ≤ rb ∧ e = .returned (.tuple #[.slice (some ⟨rb, 0, none⟩) regs.toNat regs.toNat, .int .i64 0]) ∧ RegsP w.heap.size w' rb (startG g regs.toNat (g.getD 0 []).length))) ∧ Below w.heap.size w w'
theorem mkRegs (n : Nat) (hn : n ≤ 1099511627776) (w : World) : (Instr.makeSlice 71 (.int .i64 (n : Int)) (.int .i64 (n : Int))).run Tryz.prog w = .ok (.slice (some ⟨w.heap.size, 0, none⟩) n n) (w.alloc (.cells (Array.replicate n (.slice none 0 0)) 43)) := by
  obtain ⟨i0, hi, hz0, hz1, hz2⟩ := info_parts infoRow
  have e : madeCells (Value.slice none 0 0).cells ((n : Int).toNat * 1) = Array.replicate n (.slice none 0 0) := by
    apply Array.ext
    · simp [size_madeCells]
    · intro i h1 h2
      simp [madeCells, Value.cells, Nat.mod_one]
  rw [run_make w _ _ i0 _ Tryz.underlying71 hi hz0 .i64 .i64 n n (by omega) (by omega) (by rw [hz2]; omega) (by omega), hz1, e]
  rfl
theorem regs_new (base : Nat) (w : World) (S : Grid) : RegsP base (w.alloc (.cells (Array.replicate S.length (.slice none 0 0)) 43)) w.heap.size (upG S 0) :=
  ⟨Free.new rfl, typ_fresh rfl, fun k hk => ⟨.slice none 0 0, cell_new rfl (by rw [upG_len (Nat.zero_le _)] at hk; simp [hk]), by
    rw [upG_len (Nat.zero_le _)] at hk
    rw [show (upG S 0).getD k [] = [] by simp [upG, hk]]
    exact IsRow.nil _ _ _ _⟩⟩
theorem zero_row (w : World) {base b m : Nat} (hbb : base ≤ b) (hm : m ≤ 1099511627776) (h : w.heap[b]? = some (Obj.cells (zcel m) 50 (0, 0))) : PRow base w (.slice (some ⟨b, 0, none⟩) m m) (List.replicate m 0) := by
  refine ⟨some ⟨b, 0, none⟩, m, by rw [List.length_replicate], by rw [List.length_replicate]; exact Nat.le_refl _, by unfold maxLen; omega, .inr ⟨b, 0, rfl, hbb, by unfold typOf; rw [h], fun k hk => ?_⟩⟩
  rw [List.length_replicate] at hk
  obtain ⟨h1, h2⟩ := zcel_at hk
  refine ⟨false, none, 0, 0, by rw [Nat.zero_add]; simp [World.cell?, h, h1], by rw [Nat.zero_add]; simp [World.cell?, h, h2], ?_⟩
  dsimp only
  rw [show (List.replicate m (0 : Int)).getD k 0 = 0 by simp [hk]]
  exact isInt_zero _
theorem startN_self {l : List Int} : startN l l.length = l := by simp [startN]
theorem row_of_ints {w : World} {base b : Nat} {l : List Int} (hbb : base ≤ b) (hl : l.length ≤ 1099511627776) (h : IntsF IsInt w b 0 l.length (fun j => (startN l l.length).getD j 0)) (ht : typOf w b = some 50) : PRow base w (.slice (some ⟨b, 0, none⟩) l.length l.length) l := by
  rw [startN_self] at h
  exact ⟨_, _, rfl, Nat.le_refl _, by unfold maxLen; omega, .inr ⟨b, 0, rfl, hbb, ht, h⟩⟩
set_option maxRecDepth 100000 in
set_option maxHeartbeats 16000000 in
theorem laid_c (ins regs : Int) (ca oa : Option Addr) (cc oc : Nat) (code : List Ins) (outs : List Int) (vg : Value) (g : Grid) (w : World) (hc : InsV w ca cc code) (ho : IntsV w oa oc outs) (hg : GridV w vg g) (hm0 : (g.getD 0 []).length ≤ 1099511627776) :
    Calls Tryz.prog 79 #[.agg #[.int .i64 ins, .int .i64 regs, .slice ca code.length cc, .slice oa outs.length oc], vg] w (LaidPost ins regs code outs g w) := by
  have kr := fun W (h : Below w.heap.size w W) => right_c ins regs ca oa cc oc code outs g.length W (hc.keep h) (ho.keep h)
  clear hc ho
  obtain ⟨ga, gc, rfl, hgc, hv⟩ := hg.view
  have HV := Lib.hid hv
  clear hg hv
  have hB := Below.refl w.heap.size w
  go_enter Tryz.func79, Tryz.ntmps79
  go_wp2_with fail
  refine (kr _ (by repeat (first | exact Below.refl _ _ | exact hB | refine Below.drew ?_ | refine below_drewN ?_ _ | refine bset ?_ (by simp <;> omega) _ | refine bal ?_ _))).mono ?_
  rintro e w1 ⟨hp, hb1⟩
  have p1 : w1.cell? ⟨w.heap.size, 1, none⟩ = some (.int .i64 regs) := bkc hb1
  have zp1 := cell_lt p1
  have hB : Below w.heap.size w w1 := bthen (by repeat (first | exact Below.refl _ _ | exact hB | refine Below.drew ?_ | refine below_drewN ?_ _ | refine bset ?_ (by simp <;> omega) _ | refine bal ?_ _)) hb1
  have hz : w.heap.size ≤ w1.heap.size := hB.size
  clear kr
  rcases hp with ⟨hno, rfl⟩ | ⟨hok, hne, rfl⟩ | ⟨hok, hle, rfl⟩
  · have HNO := Lib.hid hno
    clear hno
    go_wp2
    go_ret2
    exact ⟨.inl ⟨HNO.out, rfl⟩, hB⟩
  · have HNO := Lib.hid (And.intro hok hne)
    clear hok hne
    go_wp2
    go_ret2
    exact ⟨.inr (.inl ⟨HNO.out.1, fun f => HNO.out.2 f.len, rfl⟩), hB⟩
  · have HOK := Lib.hid hok
    have HLE := Lib.hid hle
    have h0 : 0 < g.length := by have := hok.i1; omega
    obtain ⟨R, hR⟩ : ∃ R : Nat, regs = R := ⟨regs.toNat, by have := hok.i1; have := hok.i2; omega⟩
    have hgR : g.length ≤ R := by have := hok.i2; omega
    have hR128 : R ≤ 128 := by have := hok.r1; omega
    clear hok hle
    subst hR
    obtain ⟨gb, go, u0, rfl, hu0, hr0⟩ := HV.out 0 h0
    obtain ⟨a0, x0, rfl, -⟩ := hr0
    rw [Nat.add_zero] at hu0
    have zgb : gb < w.heap.size := cell_lt hu0
    have hu := bkeep hB hu0
    have hg0 : (g[0]'h0) = g.getD 0 [] := by simp [h0]
    rw [hg0] at hu
    obtain ⟨m, hm⟩ : ∃ m, (g.getD 0 []).length = m := ⟨_, rfl⟩
    rw [hm] at hu hm0
    have HM := Lib.hid hm
    clear hm hu0 hg0
    have hgp : (0 : Int) < (g.length : Int) := by omega
    have hmk := mkRegs R (by omega)
    have hmi := mkInts m hm0
    have HSL := Lib.hid (startG_len (n := m) hgR)
    go_wp2
    refine wp_name fun w2 hW2 => ?_
    have HR2 : Hid (RegsP w.heap.size w2 w1.heap.size (upG (startG g R m) 0)) := Lib.hid (by
      have := regs_new w.heap.size w1 (startG g R m)
      rw [HSL.out] at this
      rw [hW2]; exact this)
    have hb12 : Below w1.heap.size w1 w2 := by rw [hW2]; exact bal (Below.refl _ _) _
    clear hW2 hmk
    have hsz1 : w.heap.size < w1.heap.size := zp1
    have hsz0 : w.heap.size ≤ w1.heap.size := by omega
    clear hu
    go_loopw [26] (fun x wr => ∃ k : Nat, k ≤ R ∧ x = .int .i64 k ∧ Below w1.heap.size w1 wr ∧ Hid (RegsP w.heap.size wr w1.heap.size (upG (startG g R m) k)) ∧ Hid (∀ j, j < k → j < g.length → (g.getD j []).length = m) ∧ Hid (0 < k → m ≤ 4096)) (fun x _ => R - (intOf x).toNat)
    case atStart => exact ⟨0, Nat.zero_le _, rfl, hb12, HR2, Lib.hid fun j hj => by omega, Lib.hid fun h => by omega⟩
    case round =>
      obtain ⟨k, hk, rfl, hb1r, hR, hJ, hM4⟩ := hrel
      have hBr : Below w.heap.size w wr := hB.trans (hb1r.mono hsz0)
      by_cases hlt : k < R
      · have hltI : (k : Int) < (R : Int) := by omega
        obtain ⟨uo, o0, -⟩ := hR.out.cell k (by rw [upG_len (by rw [HSL.out]; omega), HSL.out]; exact hlt)
        have of0 := hR.out.free.2 k
        have zo := cell_lt o0
        have hRo := Lib.hid (fun j v (h : wr.cell? ⟨w1.heap.size, j, none⟩ = some v) => h)
        have HSET := Lib.hid (upG_set (S := startG g R m) (k := k) (by rw [HSL.out]; exact hlt))
        go_upto_region 10 with (fail)
        refine wp_name fun w3 hW3 => ?_
        have hne : w1.heap.size ≠ wr.heap.size := by omega
        have h3a : Hid (Out (fun q => q = w1.heap.size) wr w3) := Lib.hid (by rw [hW3]; exact ((Out.refl _ wr).set (fun _ => show w1.heap.size = w1.heap.size from rfl) _).alloc _)
        have h3b : Hid (w3.heap[wr.heap.size]? = some (Obj.cells (zcel m) 50 (0, 0))) := Lib.hid (by rw [hW3]; exact heap_fresh (by simp))
        have h3c : Hid (∀ j, j ≠ k → ∀ v, wr.cell? ⟨w1.heap.size, j, none⟩ = some v → w3.cell? ⟨w1.heap.size, j, none⟩ = some v) := Lib.hid (fun j hj v hv => by rw [hW3]; exact cell_alloc (cell_far hv (fun e => hj (by injection e with _ e2; exact e2.symm)) _) _)
        have y0 : w3.cell? ⟨w1.heap.size, k, none⟩ = some (.slice (some ⟨wr.heap.size, 0, none⟩) m m) := by rw [hW3]; exact cell_alloc (cell_here o0 _) _
        have h3d : Hid (Free w3 w1.heap.size ∧ typOf w3 w1.heap.size = some 43) := Lib.hid (by
          rw [hW3]
          exact ⟨(hR.out.free.set _ _).keep (bal (Below.refl _ _) _), typ_keep (by rw [typ_set]; exact hR.out.ty) (bal (Below.refl _ _) _)⟩)
        have h3e : wr.heap.size < w3.heap.size := by rw [hW3]; simp
        clear hW3 o0 of0 uo
        have hb13 : Below w1.heap.size w1 w3 := hb1r.trans (h3a.out.to_below (fun q hq _ e => by omega) hb1r.size)
        have hB3 : Below w.heap.size w w3 := hB.trans (hb13.mono hsz0)
        by_cases hkg : k < g.length
        · have hkgI : (k : Int) < (g.length : Int) := by omega
          obtain ⟨gb', go', u, he, hu, hrow⟩ := HV.out k hkg
          cases he
          have hgk : (g[k]'hkg) = g.getD k [] := by simp [hkg]
          rw [hgk] at hrow
          obtain ⟨l, hl⟩ : ∃ l, g.getD k [] = l := ⟨_, rfl⟩
          rw [hl] at hrow
          have HL := Lib.hid hl
          have hrow3 := Lib.hid (hrow.keep lims_int hB3)
          obtain ⟨ra, rc, rfl, -⟩ := hrow
          have hu3 := bkeep hB3 hu
          clear hu hl hgk
          by_cases hlm : l.length = m
          · have hlmI : ((l.length : Int) != (m : Int)) = false := by rw [hlm]; simp
            have hlmN : (l.length != m) = false := by rw [hlm]; simp
            by_cases hm4 : m ≤ 4096
            · have hm4I : decide ((4096 : Int) < (m : Int)) = false := by simp; omega
              have hm4N : decide (4096 < m) = false := by simp; omega
              have HLM := Lib.hid hlm
              subst hlm
              clear hlmI hlmN
              go_wp2
              go_region_law (refine step_copy_ints (g := wr.heap.size) (R := l.length) (ad := ra) (l := l) (c := rc) (base := 0) rfl rfl rfl rfl (hrow3.out.keep lims_int (Below.refl _ _).drew) (Nat.le_refl _) (show w3.drew.heap[wr.heap.size]? = _ from h3b.out) ?_; intro n4 w4 hI4 hF4 hT4 hO4')
              all_goals
                have hO4 : Out (fun k => k = wr.heap.size) w3 w4 := (Out.of_below _ (Below.refl _ _).drew).trans hO4'
                clear hO4'
                have HP4 := Lib.hid (RegsP.put (k := k) hR.out ((h3a.out.mono fun _ _ h => Or.inl h).then hO4 fun i _ h => Or.inr h)
                  (h3d.out.1.out hO4 hne) (typ_out h3d.out.2 hO4 hne) (fun j hj v hv => okeep hO4 (h3c.out j hj v hv) hne) (okeep hO4 y0 hne) (row_of_ints hBr.size hm0 hI4 hT4))
                have eS : (upG (startG g R l.length) k).set k l = upG (startG g R l.length) (k + 1) := by
                  have e := HSET.out
                  rwa [show (startG g R l.length).getD k [] = l by rw [startG_lo hkg, HL.out]] at e
                rw [eS] at HP4
                clear eS
                clear hI4 hF4 hT4
                have hb14 : Below w1.heap.size w1 w4 := hb13.trans (hO4.to_below (fun q hq _ e => by omega) hb13.size)
                have hJ' : Hid (∀ j, j < k + 1 → j < g.length → (g.getD j []).length = l.length) := Lib.hid fun j h1 h2 => by
                  by_cases e : j = k
                  · subst e; rw [HL.out]
                  · exact hJ.out j (by omega) h2
                have hm5 : Hid (0 < k + 1 → l.length ≤ 4096) := Lib.hid fun _ => hm4
                go_wp2
                exact ⟨⟨k + 1, by omega, by go_num, hb14, HP4, hJ', hm5⟩, by simp [intOf]; omega⟩
            · have hm4I : decide ((4096 : Int) < (m : Int)) = true := by simp; omega
              have hm4N : decide (4096 < m) = true := by simp; omega
              have HNF := Lib.hid (show ¬ FitsG ins g from fun f => by have := f.m; rw [HM.out] at this; exact hm4 this)
              go_wp2
              go_ret2
              exact ⟨.inr (.inl ⟨HOK.out, HNF.out, rfl⟩), hB3⟩
          · have hlmI : ((l.length : Int) != (m : Int)) = true := by simp; omega
            have hlmN : (l.length != m) = true := by simp; omega
            have HNF := Lib.hid (show ¬ FitsG ins g from fun f => by have := f.rect k hkg; rw [HL.out, HM.out] at this; exact hlm this)
            go_wp2
            go_ret2
            exact ⟨.inr (.inl ⟨HOK.out, HNF.out, rfl⟩), hB3⟩
        · have hkgI : ¬ (k : Int) < (g.length : Int) := by omega
          have HN := Lib.hid (show RegsP w.heap.size w3 w1.heap.size (upG (startG g R m) (k + 1)) by
            rw [← HSET.out, startG_hi (by omega) hlt]
            exact RegsP.put hR.out (h3a.out.mono fun _ _ h => Or.inl h) h3d.out.1 h3d.out.2 h3c.out y0 (zero_row _ hBr.size hm0 h3b.out))
          have hm5 : Hid (0 < k + 1 → m ≤ 4096) := Lib.hid fun _ => hM4.out (by omega)
          have hJ' : Hid (∀ j, j < k + 1 → j < g.length → (g.getD j []).length = m) := Lib.hid fun j h1 h2 => hJ.out j (by omega) h2
          go_wp2
          exact ⟨⟨k + 1, by omega, by go_num, hb13, HN, hJ', hm5⟩, by simp [intOf]; omega⟩
      · obtain rfl : k = R := by omega
        have HFI := Lib.hid (show FitsG ins g from ⟨HLE.out, by rw [HM.out]; exact fun j hj => hJ.out j (by omega) hj, by rw [HM.out]; exact hM4.out (by omega)⟩)
        have HRR := Lib.hid (show RegsP w.heap.size wr w1.heap.size (startG g k m) by
          have := hR.out
          have e := upG_all (startG g k m)
          rw [HSL.out] at e
          rw [e] at this
          exact this)
        go_wp2
        go_ret2
        exact ⟨.inr (.inr ⟨HOK.out, HFI.out, w1.heap.size, hsz0, rfl, by rw [HM.out]; exact HRR.out⟩), hBr⟩
end Go.Proofs.YtdllbdfchloijaaGreatDoor

/- exact: Rows, Judge. -/
namespace Go.Proofs.YtdllbdfchloijaaGreatDoor
open Num
open Go.ChangeShapes Go.WideShapes Go.ChangeAt Go.RowKit
set_option linter.unusedVariables false
set_option linter.unusedSimpArgs false
attribute [local go_sem ↓] Go.wp_at_zero Go.wp_at_succ
/-- run's answer, an int -/
theorem runRRes {code : List Ins} {g : Grid} {rb : Nat} {w : World} {e : Ending} {w' : World} (h : RunRPost code g rb w e w') : (∃ q : Int, e = .returned (.int .i64 q) ∧ ((∃ (m : Nat) (s : Grid), m < code.length ∧ after code g m = some s ∧ after code g (m + 1) = none ∧ q = m) ∨ (∃ s, after code g code.length = some s ∧ q = -1 ∧ RegsP 0 w' rb s))) ∧ Out (fun k => k = rb) w w' := by
  obtain ⟨h, hO⟩ := h
  refine ⟨?_, hO⟩
  rcases h with ⟨m, s, h1, h2, h3, rfl⟩ | ⟨s, h1, rfl, h2⟩
  · exact ⟨_, rfl, .inl ⟨m, s, h1, h2, h3, rfl⟩⟩
  · exact ⟨_, rfl, .inr ⟨s, h1, rfl, h2⟩⟩
/-- a row of the call's own, in a block from lo on; behind which block the next may lie -/
def RowLH (w : World) (v : Value) (x : List Int × Nat × Nat) : Prop := RowO IsInt 50 x.2.1 w v x.1 ∧ x.2.2 = (rowBlk v).elim 0 (· + 1)
theorem prs_rowLH : Prs (fun t => t = 106 ∨ t = 50) RowLH :=
  ⟨fun h => (prs_rowO lims_int _ _).one h.1, fun h k => ⟨(prs_rowO lims_int _ _).kp h.1 k, h.2⟩⟩
/-- rows in blocks that lie one behind the other -/
def AscLH (gs : List (List Int × Nat × Nat)) : Prop := ∀ i j (hi : i < gs.length) (hj : j < gs.length), i < j → gs[i].2.2 ≤ gs[j].2.1
theorem RowLH.hi {w : World} {v : Value} {x : List Int × Nat × Nat} (h : RowLH w v x) : x.2.2 ≤ w.heap.size := by
  rw [h.2]
  cases e : rowBlk v with
  | none => exact Nat.zero_le _
  | some b => exact typ_lt (rowO_blk h.1 e).2
theorem OwnL.mapd {α β : Type} {T : TypeId} {Pr : World → Value → α → Prop} {Pr' : World → Value → β → Prop} {w0 wr : World} {v : Value} {g : List α} (f : α → β) (h : OwnL T Pr w0 wr v g) (hf : ∀ u x, x ∈ g → Pr wr u x → Pr' wr u (f x)) : OwnL T Pr' w0 wr v (g.map f) := by
  obtain ⟨xs, h1, h2⟩ := h
  refine ⟨xs, by rw [List.length_map]; exact h1, fun k hk => ?_⟩
  rw [List.length_map] at hk
  obtain ⟨u, hu, hp⟩ := h2 k hk
  exact ⟨u, hu, by rw [List.getElem_map]; exact hf _ _ (List.getElem_mem hk) hp⟩
theorem ascLH_snoc {gs : List (List Int × Nat × Nat)} {x : List Int × Nat × Nat} (h : AscLH gs) (hx : ∀ i (hi : i < gs.length), gs[i].2.2 ≤ x.2.1) : AscLH (gs ++ [x]) := by
  intro i j hi hj hij
  simp at hi hj
  have hi' : i < gs.length := by omega
  rw [List.getElem_append_left hi']
  by_cases e : j < gs.length
  · rw [List.getElem_append_left e]; exact h i j hi' e hij
  · rw [List.getElem_append_right (by omega)]
    have : j - gs.length = 0 := by omega
    simp [this]; exact hx i hi'
/-- what Rows answers -/
def ExRowsPost (ins regs : Int) (code : List Ins) (outs : List Int) (g : Grid) (w : World) (e : Ending) (w' : World) : Prop :=
  ((¬ ProgOk ins regs code outs ∧ e = .returned (.tuple #[.slice none 0 0, .int .i64 0, .int .i64 80])) ∨
   (ProgOk ins regs code outs ∧ ¬ FitsG ins g ∧ e = .returned (.tuple #[.slice none 0 0, .int .i64 0, .int .i64 5])) ∨
   (ProgOk ins regs code outs ∧ FitsG ins g ∧ ∃ (k : Nat) (h : Grid), k < code.length ∧ after code (startG g regs.toNat (g.getD 0 []).length) k = some h ∧ after code (startG g regs.toNat (g.getD 0 []).length) (k + 1) = none ∧ e = .returned (.tuple #[.slice none 0 0, .int .i64 k, .int .i64 20])) ∨
   (ProgOk ins regs code outs ∧ FitsG ins g ∧ ∃ (h : Grid) (v : Value), after code (startG g regs.toNat (g.getD 0 []).length) code.length = some h ∧ e = .returned (.tuple #[v, .int .i64 0, .int .i64 0]) ∧ OwnL 43 (RowO IsInt 50 w.heap.size) w w' v (outsG outs h))) ∧ Below w.heap.size w w'
/-- the same; its rows lie one behind the other -/
def ExRowsPostX (ins regs : Int) (code : List Ins) (outs : List Int) (g : Grid) (w : World) (e : Ending) (w' : World) : Prop :=
  ((¬ ProgOk ins regs code outs ∧ e = .returned (.tuple #[.slice none 0 0, .int .i64 0, .int .i64 80])) ∨
   (ProgOk ins regs code outs ∧ ¬ FitsG ins g ∧ e = .returned (.tuple #[.slice none 0 0, .int .i64 0, .int .i64 5])) ∨
   (ProgOk ins regs code outs ∧ FitsG ins g ∧ ∃ (k : Nat) (h : Grid), k < code.length ∧ after code (startG g regs.toNat (g.getD 0 []).length) k = some h ∧ after code (startG g regs.toNat (g.getD 0 []).length) (k + 1) = none ∧ e = .returned (.tuple #[.slice none 0 0, .int .i64 k, .int .i64 20])) ∨
   (ProgOk ins regs code outs ∧ FitsG ins g ∧ ∃ (h : Grid) (v : Value) (gs : List (List Int × Nat × Nat)), after code (startG g regs.toNat (g.getD 0 []).length) code.length = some h ∧ e = .returned (.tuple #[v, .int .i64 0, .int .i64 0]) ∧ gs.map (·.1) = outsG outs h ∧ AscLH gs ∧ (∀ x ∈ gs, w.heap.size ≤ x.2.1) ∧ OwnL 43 RowLH w w' v gs)) ∧ Below w.heap.size w w'
theorem ExRowsPostX.plain {ins regs : Int} {code : List Ins} {outs : List Int} {g : Grid} {w : World} {e : Ending} {w' : World} (h : ExRowsPostX ins regs code outs g w e w') : ExRowsPost ins regs code outs g w e w' := by
  obtain ⟨h, hB⟩ := h
  refine ⟨?_, hB⟩
  rcases h with h | h | h | ⟨h1, h2, h, v, gs, h3, h4, h5, h6, h7, h8⟩
  · exact .inl h
  · exact .inr (.inl h)
  · exact .inr (.inr (.inl h))
  · refine .inr (.inr (.inr ⟨h1, h2, h, v, h3, h4, ?_⟩))
    rw [← h5]
    exact h8.mapd _ fun u x hx hr => hr.1.rebase (h7 x hx)
set_option maxRecDepth 100000 in
set_option maxHeartbeats 16000000 in
theorem exRowsX_c (ins regs : Int) (ca oa : Option Addr) (cc oc : Nat) (code : List Ins) (outs : List Int) (vg : Value) (g : Grid) (K : Nat) (w : World) (hc : InsV w ca cc code) (ho : IntsV w oa oc outs) (hg : GridV w vg g) (hm0 : (g.getD 0 []).length ≤ 1099511627776) (hb : BdG K g) (hK : K ≤ 2147483648) :
    Calls Tryz.prog 45 #[.agg #[.int .i64 ins, .int .i64 regs, .slice ca code.length cc, .slice oa outs.length oc], vg] w (ExRowsPostX ins regs code outs g w) := by
  have kl := fun W (h : Below w.heap.size w W) => laid_c ins regs ca oa cc oc code outs vg g W (hc.keep h) (ho.keep h) (hg.keep (prs_row lims_int _ _) h) hm0
  have HC := Lib.hid (And.intro hc ho)
  have HBD := Lib.hid hb
  obtain ⟨ga, gc, rfl, hgc, -⟩ := hg.view
  clear hc ho hg hb
  have hB := Below.refl w.heap.size w
  go_enter Tryz.func45, Tryz.ntmps45
  go_wp2_with fail
  refine (kl _ (by repeat (first | exact Below.refl _ _ | exact hB | refine Below.drew ?_ | refine below_drewN ?_ _ | refine bset ?_ (by simp <;> omega) _ | refine bal ?_ _))).mono ?_
  rintro e w1 ⟨hp, hb1⟩
  have p0 : w1.cell? ⟨w.heap.size, 0, none⟩ = some (.int .i64 ins) := bkc hb1
  have zp0 := cell_lt p0
  have p1 : w1.cell? ⟨w.heap.size, 1, none⟩ = some (.int .i64 regs) := bkc hb1
  have p2 : w1.cell? ⟨w.heap.size, 2, none⟩ = some (.slice ca code.length cc) := bkc hb1
  have p3 : w1.cell? ⟨w.heap.size, 3, none⟩ = some (.slice oa outs.length oc) := bkc hb1
  have hB : Below w.heap.size w w1 := bthen (by repeat (first | exact Below.refl _ _ | exact hB | refine Below.drew ?_ | refine below_drewN ?_ _ | refine bset ?_ (by simp <;> omega) _ | refine bal ?_ _)) hb1
  have hz : w.heap.size ≤ w1.heap.size := hB.size
  clear kl
  rcases hp with ⟨hno, rfl⟩ | ⟨hok, hnf, rfl⟩ | ⟨hok, hfi, rb, hrb, rfl, hR⟩
  · have HNO := Lib.hid hno
    clear hno
    go_wp2
    go_ret3
    exact ⟨.inl ⟨HNO.out, rfl⟩, hB⟩
  · have HNO := Lib.hid (And.intro hok hnf)
    clear hok hnf
    go_wp2
    go_ret3
    exact ⟨.inr (.inl ⟨HNO.out.1, HNO.out.2, rfl⟩), hB⟩
  · have HOK := Lib.hid hok
    have HFI := Lib.hid hfi
    obtain ⟨R, hRE⟩ : ∃ R : Nat, regs = R := ⟨regs.toNat, by have := hok.i1; have := hok.i2; omega⟩
    have hgR : g.length ≤ R := by have := hok.i2; have := hfi.len; omega
    have hR128 : R ≤ 128 := by have := hok.r1; omega
    clear hok
    subst hRE
    rw [Int.toNat_natCast] at hR ⊢
    obtain ⟨m, hm⟩ : ∃ m, (g.getD 0 []).length = m := ⟨_, rfl⟩
    have hrect := hfi.rect
    rw [hm] at hR hm0 hrect
    have HM := Lib.hid hm
    have HRE := Lib.hid hrect
    have HRG := Lib.hid (hR.rebase (Nat.zero_le _))
    clear hm hfi hR hrect
    have HSL := Lib.hid (startG_len (n := m) hgR)
    have HSR := Lib.hid (startG_rect (regs := R) HRE.out)
    have HSB := Lib.hid (startG_bd (regs := R) (n := m) HBD.out)
    have hzz : rb < w1.heap.size := HRG.out.free.1
    have hrb' : w.heap.size + 1 ≤ rb := by simpa using hrb
    have hne : ¬ w.heap.size = rb := by omega
    have HP := Lib.hid (show ∀ W, Out (fun k => k = rb) w1 W → W.cell? ⟨w.heap.size, 0, none⟩ = some (.int .i64 ins) ∧ W.cell? ⟨w.heap.size, 1, none⟩ = some (.int .i64 (R : Int)) ∧ W.cell? ⟨w.heap.size, 2, none⟩ = some (.slice ca code.length cc) ∧ W.cell? ⟨w.heap.size, 3, none⟩ = some (.slice oa outs.length oc) from fun W h => ⟨okeep h p0 hne, okeep h p1 hne, okeep h p2 hne, okeep h p3 hne⟩)
    have HB1 := Lib.hid hB
    have rx := fun W (k : Below w1.heap.size w1 W) => runR_c ins (R : Int) ca oa cc outs.length oc code (startG g R m) m K rb 82 #[] W (HC.out.1.keep (HB1.out.trans (k.mono HB1.out.size))) (fun n hn => by rw [HSL.out]; exact ins_of HOK.out hn) HOK.out.c1 (cs_of HOK.out) (by rw [HSL.out]; exact hR128) (HRG.out.keep k) HSR.out (by have := HFI.out.m; rw [HM.out] at this; omega) HSB.out hK toldR_c (ens Tryz.func82 (by kernel_rfl) rfl) (fun b off e hl e2 => by
      rcases HC.out.1 with h0 | ⟨b', off', h1, _, h3⟩
      · rw [h0] at hl; simp at hl
      · rw [e] at h1; cases h1
        have := cell_lt (h3 0 hl).c0
        omega)
    rw [HSL.out] at rx
    have hO1 := Out.refl (fun k => k = rb) w1
    have hBc := Below.refl w1.heap.size w1
    clear p0 p1 p2 p3 hB hrb
    obtain ⟨p0, p1, p2, p3⟩ := HP.out w1 hO1
    go_wp2
    go_region_held3 (fun w' => w'.cell? ⟨w.heap.size, 0, none⟩ = some (.int .i64 ins) ∧ w'.cell? ⟨w.heap.size, 1, none⟩ = some (.int .i64 (R : Int)) ∧ w'.cell? ⟨w.heap.size, 2, none⟩ = some (.slice ca code.length cc) ∧ w'.cell? ⟨w.heap.size, 3, none⟩ = some (.slice oa outs.length oc))
      (first | (refine HP.out _ ?_; refine hO1.below ?_; (repeat (first | exact Below.refl _ _ | exact hBc | refine Below.drew ?_ | refine below_drewN ?_ _ | refine bset ?_ (by simp <;> omega) _ | refine bal ?_ _)); done) | (refine HP.out _ ?_; (repeat (first | exact hO4 | refine Out.drew ?_ | refine Out.drewN ?_ _)); done) | fail)
      (first
        | (go_at_call 81; refine (rowsV_c _).mono ?_; rintro e w3 ⟨rfl, hb3⟩; (have hBd : Below w1.heap.size w1 w3 := bthen (by repeat (first | exact Below.refl _ _ | exact hBc | refine Below.drew ?_ | refine below_drewN ?_ _ | refine bset ?_ (by simp <;> omega) _ | refine bal ?_ _)) hb3; clear hBc; have hBc := hBd; clear hBd))
        | (go_at_call 80; refine (rx _ ?_).mono ?_; (repeat (first | exact Below.refl _ _ | exact hBc | refine Below.drew ?_ | refine below_drewN ?_ _ | refine bset ?_ (by simp <;> omega) _ | refine bal ?_ _)); rintro e w4 hr4; obtain ⟨⟨q, rfl, hres⟩, hO4'⟩ := runRRes hr4; have hO4 : Out (fun k => k = rb) w1 w4 := (Out.of_below _ (by repeat (first | exact Below.refl _ _ | exact hBc | refine Below.drew ?_ | refine below_drewN ?_ _ | refine bset ?_ (by simp <;> omega) _ | refine bal ?_ _))).trans hO4'; have HRES := Lib.hid hres; clear hres hr4 hO4')
        | fail)
    all_goals
      have hB4 : Below w.heap.size w w4 := HB1.out.trans (hO4.to_below (fun q hq _ e => by omega) HB1.out.size)
      clear rx hBc p0 p1 p2 p3
      rcases HRES.out with ⟨q1, s, h1, h2, h3, rfl⟩ | ⟨s, h1, rfl, h2⟩
      · have HH := Lib.hid (And.intro h2 h3)
        clear h2 h3
        go_wp2
        go_ret3
        exact ⟨.inr (.inr (.inl ⟨HOK.out, HFI.out, q1, s, h1, by rw [Int.toNat_natCast, HM.out]; exact HH.out.1, by rw [Int.toNat_natCast, HM.out]; exact HH.out.2, rfl⟩)), by repeat (first | exact Below.refl _ _ | exact hB4 | refine Below.drew ?_ | refine below_drewN ?_ _ | refine bset ?_ (by simp <;> omega) _ | refine bal ?_ _)⟩
      · have HH := Lib.hid (And.intro h1 h2)
        have hsl := (after_len h1).trans HSL.out
        have HA := Lib.hid (after_rect HSR.out HSL.out (fun n hn => by have := (ins_of HOK.out hn).a1; have := (ins_of HOK.out hn).a0; rw [Int.toNat_natCast] at *; omega) (Nat.le_refl _) h1)
        clear h1 h2
        obtain ⟨p0, p1, p2, p3⟩ := HP.out w4 hO4
        have HL := Lib.hid hsl
        clear hsl
        have hBw := Below.refl w4.heap.size w4
        go_wp2
        refine wp_name fun w5 hW5 => ?_
        have hb45 : Below w4.heap.size w4 w5 := by rw [hW5]; repeat (first | exact Below.refl _ _ | exact hBw | refine Below.drew ?_ | refine below_drewN ?_ _ | refine bset ?_ (by simp <;> omega) _ | refine bal ?_ _)
        clear hW5 p0 p1 p2 p3
        obtain ⟨p0, p1, p2, p3⟩ := HP.out w5 (hO4.below hb45)
        have hB5 := bthen hB4 hb45
        have HR5 := Lib.hid (HH.out.2.keep hb45)
        go_loopw [10, 32] (fun v x wr => ∃ k : Nat, k ≤ outs.length ∧ x = .int .i64 k ∧ Hid (∃ gs, gs.map (·.1) = outsG (outs.take k) s ∧ AscLH gs ∧ (∀ x ∈ gs, w5.heap.size ≤ x.2.1) ∧ OwnL 43 RowLH w5 wr v gs)) (fun _ x _ => outs.length - (intOf x).toNat)
        case atStart => exact ⟨0, Nat.zero_le _, rfl, Lib.hid ⟨[], rfl, fun i j hi => absurd hi (by simp), fun x hx => absurd hx (by simp), OwnL.nil _ _ (Below.refl _ _)⟩⟩
        case round =>
          obtain ⟨k, hk, rfl, hO⟩ := hrel
          obtain ⟨gs, hgs, hasc, hlo, hOw⟩ := hO.out
          have HGS := Lib.hid (And.intro hgs (And.intro hasc hlo))
          have HOW := Lib.hid hOw
          have hbr := hOw.bel
          have hBr := bthen hB5 hbr
          have hol := HOK.out.o2
          have hlen : gs.length = k := by have := congrArg List.length hgs; simp [outsG] at this; omega
          obtain ⟨va, vc, hv⟩ := hOw.ex
          rw [hlen] at hv
          subst hv
          have HLEN := Lib.hid hlen
          clear hlen hgs hasc hlo hOw
          by_cases hlt : k < outs.length
          · have hltI : (k : Int) < (outs.length : Int) := by omega
            obtain ⟨q1, q2⟩ := HOK.out.os k hlt
            rcases HC.out.2 with h0 | ⟨ob, off, rfl, hcap, hcell⟩
            · rw [h0] at hlt; simp at hlt
            have hc := bkeep hBr (hcell k hlt)
            have zob := cell_lt hc
            obtain ⟨r, hr⟩ : ∃ r : Nat, outs.getD k 0 = r := ⟨(outs.getD k 0).toNat, by omega⟩
            rw [hr] at hc q1 q2
            have hrl : r < R := by omega
            have hrl2 : r < s.length := by rw [HL.out]; exact hrl
            obtain ⟨u, hu, hrow⟩ := HR5.out.cell r hrl2
            have hu2 := bkeep hbr hu
            have zu := cell_lt hu2
            have hlr := HA.out r hrl2
            have kcl := fun W (h : Below wr.heap.size wr W) => cloneRow_c 0 u (s.getD r []) W ((hrow.keep lims_int hbr).keep lims_int h) (by rw [hlr]; omega)
            have HN := Lib.hid (show outsG (outs.take (k + 1)) s = outsG (outs.take k) s ++ [s.getD r []] by
              rw [List.take_succ_eq_append_getElem hlt]
              have e : outs[k] = r := by rw [← hr]; simp [hlt]
              unfold outsG; rw [List.map_append, List.map_singleton, e, Int.toNat_natCast])
            obtain ⟨L, hL⟩ : ∃ L, s.getD r [] = L := ⟨_, rfl⟩
            rw [hL] at hrow kcl HN hlr
            have HLR := Lib.hid hlr
            obtain ⟨ua, uc, rfl, -⟩ := hrow
            rw [HLR.out] at hu2 kcl
            clear hr hcell hu hL hlr
            go_wp2_with fail
            refine (kcl _ (Below.refl _ _)).mono ?_
            rintro e w6 ⟨⟨v6, rfl, hr6⟩, hb6⟩
            have HO6 := Lib.hid (HOW.out.below prs_rowLH hb6)
            obtain ⟨a6, c6, hv6⟩ := hr6.ex
            rw [HLR.out] at hv6
            subst hv6
            have HR6 := Lib.hid hr6
            clear hr6 kcl
            go_wp2_with (at_builtin; refine appL (y := (L, wr.heap.size, (rowBlk (.slice a6 m c6)).elim 0 (· + 1))) elRow prs_rowLH (by decide) (by rfl) (by rfl) (HO6.out.below prs_rowLH (bal (Below.refl _ _) _)) ⟨HR6.out.keep lims_int (bal (Below.refl _ _) _), rfl⟩ (by rfl) (by rfl) (cell_new rfl rfl) (by rw [HLEN.out]; omega) (by rw [HLEN.out]; unfold maxLen; omega) ?_)
            intro v' w8 hO8 hk8
            have HO8 := Lib.hid (show ∃ gs, gs.map (·.1) = outsG (outs.take (k + 1)) s ∧ AscLH gs ∧ (∀ x ∈ gs, w5.heap.size ≤ x.2.1) ∧ OwnL 43 RowLH w5 w8 v' gs from ⟨_, by rw [List.map_append, HGS.out.1, HN.out]; rfl, ascLH_snoc HGS.out.2.1 (fun i hi => by obtain ⟨_, _, e, _, vr⟩ := HOW.out.isL.view; obtain ⟨_, _, u, _, _, hp⟩ := vr i hi; exact hp.hi), fun x hx => by
              rcases List.mem_append.1 hx with h | h
              · exact HGS.out.2.2 x h
              · simp at h; subst h; exact hbr.size, hO8⟩)
            clear hO8 hk8
            go_wp2
            exact ⟨⟨k + 1, by omega, by go_num, HO8⟩, by simp [intOf]; omega⟩
          · obtain rfl : k = outs.length := by omega
            rw [List.take_length] at HGS
            have HFIN := Lib.hid (show OwnL 43 RowLH w wr (.slice va outs.length vc) gs from HOW.out.rebase hB5)
            go_wp2
            go_ret3
            exact ⟨.inr (.inr (.inr ⟨HOK.out, HFI.out, s, _, gs, by rw [Int.toNat_natCast, HM.out]; exact HH.out.1, rfl, HGS.out.1, HGS.out.2.1, fun x hx => Nat.le_trans hB5.size (HGS.out.2.2 x hx), HFIN.out⟩)), hBr⟩
theorem exRows_c (ins regs : Int) (ca oa : Option Addr) (cc oc : Nat) (code : List Ins) (outs : List Int) (vg : Value) (g : Grid) (K : Nat) (w : World) (hc : InsV w ca cc code) (ho : IntsV w oa oc outs) (hg : GridV w vg g) (hm0 : (g.getD 0 []).length ≤ 1099511627776) (hb : BdG K g) (hK : K ≤ 2147483648) :
    Calls Tryz.prog 45 #[.agg #[.int .i64 ins, .int .i64 regs, .slice ca code.length cc, .slice oa outs.length oc], vg] w (ExRowsPost ins regs code outs g w) :=
  (exRowsX_c ins regs ca oa cc oc code outs vg g K w hc ho hg hm0 hb hK).mono fun _ _ h => h.plain
end Go.Proofs.YtdllbdfchloijaaGreatDoor

