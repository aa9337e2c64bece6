/- Texts of this seat, laid together: VwD, VwR. Each opens with its own remark, which says what it proves, and under which conditions. -/
import Derived.Test.YtannhpadoooedaaGreatDoorG31
import Derived.Test.YtannhpadoooedaaGreatDoorG38
/- vm's laws: are two lists of the program's numbers the same? -/
namespace Go.Proofs.YtannhpadoooedaaGreatDoor
open Num
open Go.ChangeShapes Go.WideShapes Go.ChangeAt Go.RowKit
set_option linter.unusedVariables false
set_option linter.unusedSimpArgs false
/-! the same for two lists of the program's numbers -/
theorem cmpI_self (x : Int) : cmpI x x = 0 := by simp [cmpI]
set_option maxRecDepth 100000 in
set_option maxHeartbeats 4000000 in
theorem alike1_c (vx vy : Value) (x : Int) (k : Nat) (w : World) (hx : IsInt w vx x) (hy : IsInt w vy x) (bx : Bd k x) (hk : k ≤ 1073741824) :
    Calls Tryz.prog 77 #[vx, vy] w fun e w' => e = .returned (.bool true) ∧ Below w.heap.size w w' := by
  have cc := fun W (h : Below w.heap.size w W) => cmp_c vx vy x x W (hx.keep h) (hy.keep h)
  rw [cmpI_self] at cc
  obtain ⟨n1, a1, c1, l1, rfl, -⟩ := hx
  obtain ⟨n2, a2, c2, l2, rfl, -⟩ := hy
  unfold iv at *
  clear bx
  have hB := Below.refl w.heap.size w
  go_enter Tryz.func77, Tryz.ntmps77
  go_wp2_with fail
  refine (cc _ (by repeat (first | exact Below.refl _ _ | exact hB | refine Below.drew ?_ | refine below_drewN ?_ _ | refine bset ?_ (by simp <;> omega) _ | refine bal ?_ _))).mono ?_
  rintro e w5 ⟨rfl, hb5⟩
  have hB5 : Below w.heap.size w w5 := bthen (by repeat (first | exact Below.refl _ _ | exact hB | refine Below.drew ?_ | refine below_drewN ?_ _ | refine bset ?_ (by simp <;> omega) _ | refine bal ?_ _)) hb5
  clear cc
  go_wp2
  go_ret
  exact ⟨rfl, hB5⟩
set_option maxRecDepth 100000 in
set_option maxHeartbeats 8000000 in
theorem eqNumI_c (vl vw : Value) (l : List Int) (k : Nat) (w : World) (hx : PRow 0 w vl l) (hy : PRow 0 w vw l) (bx : ∀ j, Bd k (l.getD j 0)) (hk : k ≤ 1073741824) (hl : l.length ≤ 1099511627776) :
    Calls Tryz.prog 76 #[vl, vw, .func (.func 77) #[] #[]] w fun e w' => e = .returned (.bool true) ∧ Below w.heap.size w w' := by
  obtain ⟨a1, c1, rfl, -, v1⟩ := hx.view
  obtain ⟨a2, c2, rfl, -, v2⟩ := hy.view
  have H1 := Lib.hid v1
  have H2 := Lib.hid v2
  have HB := Lib.hid bx
  clear hx hy v1 v2 bx
  have hB := Below.refl w.heap.size w
  have hq : ((l.length : Int) != (l.length : Int)) = false := by simp
  go_enter Tryz.func76, Tryz.ntmps76
  go_wp2
  go_loopw [17] (fun x wr => ∃ j : Nat, j ≤ l.length ∧ x = .int .i64 j ∧ Below w.heap.size w wr) (fun x _ => l.length - (intOf x).toNat)
  case atStart => exact ⟨0, Nat.zero_le _, rfl, hB⟩
  case round =>
    obtain ⟨j, hj, rfl, hBr⟩ := hrel
    by_cases hlt : j < l.length
    · have hltI : (j : Int) < (l.length : Int) := by omega
      obtain ⟨b1, o1, n1, x1, l1, p1, rfl, k1, k2, i1⟩ := H1.out j hlt
      obtain ⟨b2, o2, n2, x2, l2, p2, rfl, m1, m2, i2⟩ := H2.out j hlt
      have cc := fun W (h : Below wr.heap.size wr W) => alike1_c _ _ _ k W (i1.keep (bthen hBr h)) (i2.keep (bthen hBr h)) (HB.out j) hk
      replace k1 := bkeep hBr k1
      replace k2 := bkeep hBr k2
      replace m1 := bkeep hBr m1
      replace m2 := bkeep hBr m2
      have z1 := cell_lt k1
      have z2 := cell_lt m1
      have z3 : b2 < wr.heap.size + 1 := by omega
      have z4 : b1 < wr.heap.size + 1 := by omega
      have hBw := Below.refl wr.heap.size wr
      clear i1 i2
      go_wp2_with fail
      refine (cc _ (by repeat (first | exact Below.refl _ _ | exact hBw | refine Below.drew ?_ | refine below_drewN ?_ _ | refine bset ?_ (by simp <;> omega) _ | refine bal ?_ _))).mono ?_
      rintro e w5 ⟨rfl, hb5⟩
      have hB5 : Below w.heap.size w w5 := bthen (bthen hBr (by repeat (first | exact Below.refl _ _ | exact hBw | refine Below.drew ?_ | refine below_drewN ?_ _ | refine bset ?_ (by simp <;> omega) _ | refine bal ?_ _))) hb5
      clear cc
      go_wp2
      exact ⟨⟨j + 1, by omega, by go_num, hB5⟩, by simp [intOf]; omega⟩
    · obtain rfl : j = l.length := by omega
      go_wp2
      go_ret
      exact ⟨rfl, hBr⟩
set_option maxRecDepth 100000 in
theorem alike_c (vl vw : Value) (l : List Int) (k : Nat) (w : World) (hx : PRow 0 w vl l) (hy : PRow 0 w vw l) (bx : ∀ j, Bd k (l.getD j 0)) (hk : k ≤ 1073741824) (hl : l.length ≤ 1099511627776) :
    Calls Tryz.prog 34 #[vl, vw] w fun e w' => e = .returned (.bool true) ∧ Below w.heap.size w w' := by
  have hc := fun W (h : Below w.heap.size w W) => eqNumI_c vl vw l k W (hx.keep lims_int h) (hy.keep lims_int h) bx hk hl
  obtain ⟨a1, c1, rfl, -⟩ := hx
  obtain ⟨a2, c2, rfl, -⟩ := hy
  clear bx
  have hB := Below.refl w.heap.size w
  go_enter Tryz.func34, Tryz.ntmps34
  go_wp2_with fail
  refine (hc _ (by repeat (first | exact Below.refl _ _ | exact hB | refine Below.drew ?_ | refine below_drewN ?_ _ | refine bset ?_ (by simp <;> omega) _ | refine bal ?_ _))).mono ?_
  rintro e w5 ⟨rfl, hb5⟩
  clear hc
  go_wp2
  go_ret
  exact ⟨rfl, hb5⟩
set_option maxRecDepth 100000 in
set_option maxHeartbeats 8000000 in
theorem eqRowI_c (vl vw : Value) (g : Grid) (k : Nat) (w : World) (hx : IsL 29 (PRow 0) 0 w vl g) (hy : IsL 29 (PRow 0) 0 w vw g) (bx : BdG k g) (hk : k ≤ 1073741824) (hg : g.length ≤ 8796093022208) (hl : ∀ j (hj : j < g.length), g[j].length ≤ 1099511627776) :
    Calls Tryz.prog 33 #[vl, vw, .func (.func 34) #[] #[]] w fun e w' => e = .returned (.bool true) ∧ Below w.heap.size w w' := by
  obtain ⟨a1, c1, rfl, -, v1⟩ := hx.view
  obtain ⟨a2, c2, rfl, -, v2⟩ := hy.view
  have H1 := Lib.hid v1
  have H2 := Lib.hid v2
  have HB := Lib.hid bx
  have HL := Lib.hid hl
  clear hx hy v1 v2 bx hl
  have hB := Below.refl w.heap.size w
  have hq : ((g.length : Int) != (g.length : Int)) = false := by simp
  go_enter Tryz.func33, Tryz.ntmps33
  go_wp2
  go_loopw [17] (fun x wr => ∃ j : Nat, j ≤ g.length ∧ x = .int .i64 j ∧ Below w.heap.size w wr) (fun x _ => g.length - (intOf x).toNat)
  case atStart => exact ⟨0, Nat.zero_le _, rfl, hB⟩
  case round =>
    obtain ⟨j, hj, rfl, hBr⟩ := hrel
    by_cases hlt : j < g.length
    · have hltI : (j : Int) < (g.length : Int) := by omega
      obtain ⟨b1, o1, u1, rfl, k1, i1⟩ := H1.out j hlt
      obtain ⟨b2, o2, u2, rfl, k2, i2⟩ := H2.out j hlt
      have cc := fun W (h : Below w.heap.size w W) => alike_c _ _ _ k W (i1.keep lims_int h) (i2.keep lims_int h) (by have := HB.out.row j; rwa [show g.getD j [] = g[j] by simp [hlt]] at this) hk (HL.out j hlt)
      obtain ⟨ya, yc, rfl, -⟩ := i1
      obtain ⟨za, zc, rfl, -⟩ := i2
      replace k1 := bkeep hBr k1
      replace k2 := bkeep hBr k2
      obtain ⟨n, hn⟩ : ∃ n, g[j].length = n := ⟨_, rfl⟩
      rw [hn] at k1 k2 cc
      clear hn
      go_wp2_with fail
      refine (cc _ hBr).mono ?_
      rintro e w5 ⟨rfl, hb5⟩
      have hB5 : Below w.heap.size w w5 := bthen hBr hb5
      clear cc
      go_wp2
      exact ⟨⟨j + 1, by omega, by go_num, hB5⟩, by simp [intOf]; omega⟩
    · obtain rfl : j = g.length := by omega
      go_wp2
      go_ret
      exact ⟨rfl, hBr⟩
end Go.Proofs.YtannhpadoooedaaGreatDoor
/- vm's laws: a program and rows that came in; what Run's and New's results say. -/
namespace Go.Proofs.YtannhpadoooedaaGreatDoor
open Num
open Go.ChangeShapes Go.WideShapes Go.ChangeAt Go.RowKit
set_option linter.unusedVariables false
set_option linter.unusedSimpArgs false
/-- a program that came in -/
structure ProgI (w : World) (ca oa : Option Addr) (cc oc : Nat) (code : List Ins) (outs : List Int) : Prop where
  c : InsV w ca cc code
  o : IntsV w oa oc outs
  cn : ca = none → code = []
  on : oa = none → outs = []
  cl : code.length ≤ 1048576
  ol : outs.length ≤ 1048576
/-- a grid that came in, of a size that the form lets by -/
structure GridS (w : World) (v : Value) (g : Grid) : Prop where
  i : GridI w v g
  s : sumG g ≤ 1048576
  l : g.length ≤ 1048576
theorem GridI.bd {w : World} {v : Value} {g : Grid} (h : GridI w v g) : BdG 64 g := by
  obtain ⟨a, c, _, h2⟩ := h
  refine bdG_i64 fun k hk j hj => ?_
  obtain ⟨b, off, u, _, _, hr⟩ := h2 k hk
  obtain ⟨a', c', _, h3⟩ := hr
  obtain ⟨_, _, _, _, h4⟩ := h3 j hj
  exact h4
theorem outsG_bd {k : Nat} {h : Grid} (hb : BdG k h) (outs : List Int) : BdG k (outsG outs h) := by
  intro i j
  unfold outsG
  rw [List.getD_eq_getElem?_getD (l := List.map _ _), List.getElem?_map]
  cases outs[i]? with
  | none => simp [bd_zero]
  | some o => exact hb _ j
theorem outsG_len {m : Nat} {h : Grid} (hr : Rect m h) {outs : List Int} (ho : ∀ k, k < outs.length → 0 ≤ outs.getD k 0 ∧ outs.getD k 0 < h.length) : ∀ j (hj : j < (outsG outs h).length), (outsG outs h)[j].length = m := by
  intro j hj
  have hj2 : j < outs.length := by simpa [outsG] using hj
  obtain ⟨h1, h2⟩ := ho j hj2
  have h3 := hr (outs.getD j 0).toNat (by omega)
  have e : outs.getD j 0 = outs[j] := by simp [hj2]
  rw [e] at h3
  simpa [outsG] using h3
/-- what Run's results say -/
def RunRes (ins regs : Int) (code : List Ins) (outs : List Int) (g : Grid) (base : Nat) (w' : World) (ov : Value) (n : Nat) (s : Int) : Prop :=
  (¬ ProgOk ins regs code outs ∧ ov = .slice none 0 0 ∧ n = 0 ∧ s = 80) ∨
  (ProgOk ins regs code outs ∧ ¬ FitsG ins g ∧ ov = .slice none 0 0 ∧ n = 0 ∧ s = 5) ∨
  (ProgOk ins regs code outs ∧ FitsG ins g ∧ n < code.length ∧ (∃ h, after code (startG g regs.toNat (g.getD 0 []).length) n = some h) ∧ after code (startG g regs.toNat (g.getD 0 []).length) (n + 1) = none ∧ ov = .slice none 0 0 ∧ s = 20) ∨
  (ProgOk ins regs code outs ∧ FitsG ins g ∧ n = code.length ∧ s = 0 ∧ ∃ h, after code (startG g regs.toNat (g.getD 0 []).length) code.length = some h ∧ IsL 29 (RowW base) base w' ov (outsG outs h))
theorem runRes {ins regs : Int} {code : List Ins} {outs : List Int} {g : Grid} {w : World} {e : Ending} {w' : World} (h : RunPost ins regs code outs g w e w') : (∃ a len cp n s, e = .returned (.tuple #[.slice a len cp, .int .i64 ((n : Nat) : Int), .int .i64 s]) ∧ RunRes ins regs code outs g w.heap.size w' (.slice a len cp) n s) ∧ Below w.heap.size w w' := by
  obtain ⟨h, hB⟩ := h
  refine ⟨?_, hB⟩
  rcases h with ⟨h1, rfl⟩ | ⟨h1, h2, rfl⟩ | ⟨h1, h2, k, h, h3, h4, h5, rfl⟩ | ⟨h1, h2, h, v, h3, rfl, h4⟩
  · exact ⟨_, _, _, 0, _, rfl, .inl ⟨h1, rfl, rfl, rfl⟩⟩
  · exact ⟨_, _, _, 0, _, rfl, .inr (.inl ⟨h1, h2, rfl, rfl, rfl⟩)⟩
  · exact ⟨_, _, _, k, _, rfl, .inr (.inr (.inl ⟨h1, h2, h3, ⟨h, h4⟩, h5, rfl, rfl⟩))⟩
  · obtain ⟨a, c, rfl⟩ := h4.ex
    exact ⟨_, _, _, _, _, rfl, .inr (.inr (.inr ⟨h1, h2, rfl, rfl, h, h3, h4.isL⟩))⟩
theorem RunRes.keep {ins regs : Int} {code : List Ins} {outs : List Int} {g : Grid} {base : Nat} {w w' : World} {ov : Value} {n : Nat} {s : Int} (h : RunRes ins regs code outs g base w ov n s) (hb : Below w.heap.size w w') : RunRes ins regs code outs g base w' ov n s := by
  rcases h with h | h | h | ⟨h1, h2, h3, h4, h, h5, h6⟩
  · exact .inl h
  · exact .inr (.inl h)
  · exact .inr (.inr (.inl h))
  · exact .inr (.inr (.inr ⟨h1, h2, h3, h4, h, h5, h6.keep (prs_rowO lims_int _ _) hb⟩))
/-- what New's results say -/
def NewRes (ins regs : Int) (code : List Ins) (outs : List Int) (g : Grid) (base : Nat) (w' : World) (pv : Option Addr) (s : Int) : Prop :=
  (¬ ProgOk ins regs code outs ∧ pv = none ∧ s = 80) ∨
  (ProgOk ins regs code outs ∧ ¬ FitsG ins g ∧ pv = none ∧ s = 5) ∨
  (ProgOk ins regs code outs ∧ FitsG ins g ∧ s = 0 ∧ ∃ b rb rc, pv = some ⟨b, 0, none⟩ ∧ Mach base w' b rb rc ins regs code outs (startG g regs.toNat (g.getD 0 []).length) 0)
theorem newRes {ins regs : Int} {code : List Ins} {outs : List Int} {g : Grid} {w : World} {e : Ending} {w' : World} (h : NewPost ins regs code outs g w e w') : (∃ pv s, e = .returned (.tuple #[.pointer pv, .int .i64 s]) ∧ NewRes ins regs code outs g w.heap.size w' pv s) ∧ Below w.heap.size w w' := by
  obtain ⟨h, hB⟩ := h
  refine ⟨?_, hB⟩
  rcases h with ⟨h1, rfl⟩ | ⟨h1, h2, rfl⟩ | ⟨h1, h2, b, rb, rc, rfl, h3⟩
  · exact ⟨_, _, rfl, .inl ⟨h1, rfl, rfl⟩⟩
  · exact ⟨_, _, rfl, .inr (.inl ⟨h1, h2, rfl, rfl⟩)⟩
  · exact ⟨_, _, rfl, .inr (.inr ⟨h1, h2, rfl, b, rb, rc, rfl, h3⟩)⟩
end Go.Proofs.YtannhpadoooedaaGreatDoor
