/- Texts of this seat, laid together: RtD, ExM, ExN, ExO, RwG, MxA, MxB, MxC, MxD, MxE. Each opens with its own remark, which says what it proves, and under which conditions. -/
import Derived.Test.YtdllbdfchloijaaGreatDoorE26
import Derived.Test.YtdllbdfchloijaaGreatDoorE27
import Derived.Deep.LoopGhost
import Derived.Test.YtdllbdfchloijaaGreatDoorE23
import Derived.Test.YtdllbdfchloijaaGreatDoorE19
import Derived.Test.YtdllbdfchloijaaGreatDoorE20
import Derived.Shelf.RegionOpen
import Derived.Deep.RegionLaw
import Derived.Test.YtdllbdfchloijaaGreatDoorE21
import Derived.StillTailTactics
import Derived.Test.YtdllbdfchloijaaGreatDoorE05
import Derived.Test.YtdllbdfchloijaaGreatDoorE07
set_option linter.unusedVariables false
set_option linter.unusedSimpArgs false
/- The reference: Follow: a program over a grid. -/
namespace Go.Proofs.YtdllbdfchloijaaGreatDoor
open Num
open Go.ChangeShapes Go.WideShapes Go.ChangeAt Go.RowKit
set_option linter.unusedVariables false
set_option linter.unusedSimpArgs false
attribute [local go_sem ↓] Go.wp_at_zero Go.wp_at_succ
/-- the row that the n-th instruction sets -/
def toldR (code : List Ins) (g : Grid) (n : Nat) : List Int :=
  match after code g n with
  | some h => (stepR (code.getD n default) (h.getD (code.getD n default).a.toNat []) (h.getD (code.getD n default).b.toNat [])).getD []
  | none => []
/-- the rows that the first n instructions set -/
def told (code : List Ins) (g : Grid) (n : Nat) : Grid := (List.range n).map (toldR code g)
theorem told_len (code : List Ins) (g : Grid) (n : Nat) : (told code g n).length = n := by simp [told]
theorem told_succ (code : List Ins) (g : Grid) (n : Nat) : told code g (n + 1) = told code g n ++ [toldR code g n] := by
  unfold told; rw [List.range_succ, List.map_append]; rfl
theorem toldR_eq {code : List Ins} {g h : Grid} {n : Nat} {r : List Int} (e : after code g n = some h) (e2 : stepR (code.getD n default) (h.getD (code.getD n default).a.toNat []) (h.getD (code.getD n default).b.toNat []) = some r) : toldR code g n = r := by
  unfold toldR; rw [e]; dsimp only; rw [e2]; rfl
theorem mkRegsQ (n : Nat) (hn : n ≤ 1099511627776) (w : World) : (Instr.makeSlice 85 (.int .i64 (n : Int)) (.int .i64 (n : Int))).run Tryz.prog w = .ok (.slice (some ⟨w.heap.size, 0, none⟩) n n) (w.alloc (.cells (Array.replicate n (.slice none 0 0)) 91)) := by
  obtain ⟨i0, hi, hz0, hz1, hz2⟩ := info_parts infoRw
  have e : madeCells (Value.slice none 0 0).cells ((n : Int).toNat * 1) = Array.replicate n (.slice none 0 0) := by
    apply Array.ext
    · simp [size_madeCells]
    · intro i h1 h2
      simp [madeCells, Value.cells, Nat.mod_one]
  rw [run_make w _ _ i0 _ Tryz.underlying85 hi hz0 .i64 .i64 n n (by omega) (by omega) (by rw [hz2]; omega) (by omega), hz1, e]
  rfl
theorem regsQ_new (w : World) (S : Grid) : RegsQ (w.alloc (.cells (Array.replicate S.length (.slice none 0 0)) 91)) w.heap.size (upG S 0) :=
  ⟨Free.new rfl, typ_fresh rfl, fun k hk => ⟨.slice none 0 0, cell_new rfl (by rw [upG_len (Nat.zero_le _)] at hk; simp [hk]), by
    rw [upG_len (Nat.zero_le _)] at hk
    rw [show (upG S 0).getD k [] = [] by simp [upG, hk]]
    exact IsRow.nil _ _ _ _⟩⟩
/-- a list of the call's own (from base on), built by append; base is free -/
def OwnLB {α : Type} (T : TypeId) (Pr : World → Value → α → Prop) (base : Nat) (w : World) (v : Value) (g : List α) : Prop :=
  ∃ xs, w.ownsRow base T 1 v g.length xs ∧ ∀ k (hk : k < g.length), ∃ u, xs[k]? = some u ∧ Pr w u g[k]
section
variable {α : Type} {S S' : TypeId → Prop} {T : TypeId} {Pr : World → Value → α → Prop} {base : Nat} {w0 wr w' : World} {v u : Value} {g : List α} {y : α}
theorem OwnLB.nil (T : TypeId) (Pr : World → Value → α → Prop) (base : Nat) (w : World) : OwnLB T Pr base w (.slice none 0 0) [] := ⟨[], World.ownsRow_nil _ _ _ _, fun k hk => absurd hk (by simp)⟩
theorem OwnLB.keep (hP : Prs S Pr) (h : OwnLB T Pr base wr v g) (hb : Below wr.heap.size wr w') : OwnLB T Pr base w' v g := by
  obtain ⟨xs, h1, h2⟩ := h
  refine ⟨xs, owns_kp (S := fun _ => True) h1 (Kp.of_below _ hb) trivial, fun k hk => ?_⟩
  obtain ⟨u, hu, hr⟩ := h2 k hk
  exact ⟨u, hu, hP.kp hr (Kp.of_below _ hb)⟩
theorem OwnLB.ex (h : OwnLB T Pr base wr v g) : ∃ a c, v = .slice a g.length c := by
  obtain ⟨xs, ⟨_, h1⟩, _⟩ := h
  rcases h1 with ⟨rfl, h0⟩ | ⟨b, cap, cur, rfl, _⟩
  · exact ⟨none, 0, by rw [h0]⟩
  · exact ⟨_, _, rfl⟩
theorem OwnLB.ownL (h : OwnLB T Pr base wr v g) (hb : Below w0.heap.size w0 wr) (hs : w0.heap.size ≤ base) : OwnL T Pr w0 wr v g := by
  obtain ⟨xs, ⟨hl, h1⟩, h2⟩ := h
  refine ⟨xs, ⟨⟨hl, ?_⟩, hb⟩, h2⟩
  rcases h1 with h1 | ⟨b, cap, cur, hv, hg, r⟩
  · exact .inl h1
  · exact .inr ⟨b, cap, cur, hv, Nat.le_trans hs hg, r⟩
theorem OwnLB.set (hP : Prs S Pr) (h : OwnLB T Pr base wr v g) {p : Addr} {t : TypeId} (ht : typOf wr p.block = some t) (h2 : ¬ S t) (hp : p.block < base) (y : Value) : OwnLB T Pr base (wr.setCell p y) v g := by
  obtain ⟨xs, hO, hx⟩ := h
  have hk : Kp S wr (wr.setCell p y) := (Kp.refl _ _).set (fun t' ht' => by rw [ht] at ht'; cases ht'; exact h2) y
  refine ⟨xs, ownsRow_setCell_other hO ?_ y, fun k hk' => ?_⟩
  · intro hb
    have := (hO.lt _ hb).1
    omega
  · obtain ⟨u, hu, hr⟩ := hx k hk'
    exact ⟨u, hu, hP.kp hr hk⟩
end
section
variable {α : Type} {P : Program} {TT T : TypeId} {bytes : Nat} {S : TypeId → Prop} {Pr : World → Value → α → Prop} {ops : Array Oper} {o : Oper} {a : Act} {Q : Exit → Act → World → Prop} {base : Nat} {wr : World} {v u : Value} {g : List α} {y : α} {s x : Operand} {cc gb : Nat}
/-- append of one value to such a list -/
theorem appLB {rest : List Oper} (el : Elt P TT T 1 bytes) (hP : Prs S Pr) (hT : ¬ S T) (hgd : o.guard = none)
    (ho : o.op = .call { callee := .builtin .append, args := #[s, x], argTypes := #[TT, TT] }) (hO : OwnLB T Pr base wr v g) (hbase : base ≤ wr.heap.size) (hv : Pr wr u y) (hs : a.eval s = v)
    (hx : a.eval x = .slice (some ⟨gb, 0, none⟩) 1 cc) (hc : wr.cell? ⟨gb, 0, none⟩ = some u) (hn : (g.length + 1) * bytes ≤ 140737488355328) (hn2 : g.length + 1 ≤ maxLen)
    (h : ∀ v' w', OwnLB T Pr base w' v' (g ++ [y]) → Kp (· ≠ T) wr w' → Out (fun k => base ≤ k) wr w' → wpList P ops Q rest (a.put o.dst v') w') : wpList P ops Q (o :: rest) a wr := by
  refine wpList_plain hgd fun K hK => ?_
  obtain ⟨i, z0, hi, hz, hsize, hby, hzs⟩ := el.info
  obtain ⟨xs, h1, h2⟩ := hO
  have hone : u.oneCell' = true := hP.one hv
  refine wp_append_own _ s x TT ho base T i z0 1 bytes el.ht hi hz hsize hby hzs el.pos v g.length xs hs h1 ⟨gb, 0, none⟩ 1 cc [u] hx rfl (fun j y hj => ?_) (fun y hy => by simp at hy; subst hy; exact hone) hn2 hn hbase ?_
  · have hj1 : j < 1 := (List.getElem?_eq_some_iff.1 hj).1
    obtain rfl : j = 0 := by omega
    simp at hj; subst hj
    simpa [Addr.add] using hc
  intro v' w' hown hg _
  have hk : Kp (· ≠ T) wr w' := (Kp.refl _ wr).grown hg fun q hg' t' ht hne => hne (by
    rw [own_typ' h1 hg'] at ht
    exact (Option.some.inj ht).symm)
  refine hK _ _ (h v' w' ⟨_, by simpa using hown, fun j hj => ?_⟩ hk ((Out.refl _ wr).grown hg fun k hk' _ => (h1.lt k hk').1))
  simp at hj
  by_cases e : j < g.length
  · obtain ⟨u', hu', hr⟩ := h2 j e
    exact ⟨u', by rw [List.getElem?_append_left (by rw [h1.1]; omega)]; exact hu', by rw [List.getElem_append_left e]; exact hP.kp hr (hk.weak fun t hs e => hT (e ▸ hs))⟩
  · obtain rfl : j = g.length := by omega
    exact ⟨u, by rw [List.getElem?_append_right (by rw [h1.1]; omega), h1.1]; simp, by rw [List.getElem_append_right (by omega)]; simpa using hP.kp hv (hk.weak fun t hs e => hT (e ▸ hs))⟩
end
theorem RegsQ.grown {wr w' : World} {rb base : Nat} {g : Grid} (h : RegsQ wr rb g) (hk : Kp (· ≠ 91) wr w') (ho : Out (fun k => base ≤ k) wr w') (hb : rb < base) : RegsQ w' rb g := by
  have hx : ¬ (base ≤ rb) := by omega
  exact ⟨h.free.out ho hx, typ_out h.ty ho hx, fun j hj => by
    obtain ⟨u, hu, hr⟩ := h.cell j hj
    exact ⟨u, okeep ho hu hx, hr.kp lims_ref hk (by decide) (by decide)⟩⟩
abbrev GridQ (w : World) (v : Value) (g : Grid) : Prop := IsL 91 (RRow 0) 0 w v g
/-- what Follow answers, where the program may be and the grid fits -/
def FollowP (code : List Ins) (outs : List Int) (G : Grid) (w : World) (e : Ending) (w' : World) : Prop :=
  ((∃ (m : Nat) (h : Grid) (v : Value), m < code.length ∧ after code G m = some h ∧ after code G (m + 1) = none ∧ e = .returned (.tuple #[v, .int .i64 m, .slice none 0 0]) ∧ OwnL 91 (RRow 0) w w' v (told code G m)) ∨
   (∃ (h : Grid) (v u : Value), after code G code.length = some h ∧ e = .returned (.tuple #[v, .int .i64 (-1), u]) ∧ OwnL 91 (RRow 0) w w' v (told code G code.length) ∧ OwnL 91 (RRow 0) w w' u (outsG outs h))) ∧ Below w.heap.size w w'
set_option maxRecDepth 100000 in
set_option maxHeartbeats 16000000 in
theorem follow_c (ins : Int) (R : Nat) (ca oa : Option Addr) (cc oc : Nat) (code : List Ins) (outs : List Int) (vg : Value) (g : Grid) (m K : Nat) (w : World) (hc : InsV w ca cc code) (ho : IntsV w oa oc outs) (hg : GridQ w vg g) (hok : ProgOk ins R code outs) (hle : (g.length : Int) = ins) (hr : Rect m g) (hm : (g.getD 0 []).length = m) (hm2 : m ≤ 4096) (hb : BdG K g) (hK : K ≤ 2147483648) :
    Calls Tryz.prog 40 #[.agg #[.int .i64 ins, .int .i64 (R : Int), .slice ca code.length cc, .slice oa outs.length oc], vg] w (FollowP code outs (startG g R m) w) := by
  have HOK := Lib.hid hok
  have HC := Lib.hid (And.intro hc ho)
  have HM := Lib.hid hm
  have HRE := Lib.hid hr
  have HBD := Lib.hid hb
  obtain ⟨ga, gc, rfl, hgc, hv⟩ := hg.view
  have HV := Lib.hid hv
  have h0 : 0 < g.length := by have := hok.i1; omega
  have hgR : g.length ≤ R := by have := hok.i2; omega
  have hR128 : R ≤ 128 := by have := hok.r1; omega
  clear hc ho hg hv hok hle hr hm hb
  have hB := Below.refl w.heap.size w
  obtain ⟨gb, go, u0, rfl, hu0, hr0⟩ := HV.out 0 h0
  obtain ⟨a0, x0, rfl, -⟩ := hr0
  rw [Nat.add_zero, show (g[0]'h0) = g.getD 0 [] by simp [h0], HM.out] at hu0
  have HU0 := Lib.hid hu0
  have zgb : gb < w.heap.size := cell_lt hu0
  have hgp : (0 : Int) < (g.length : Int) := by omega
  have hmk := mkRegsQ R (by omega)
  have HSL := Lib.hid (startG_len (n := m) hgR)
  clear hu0
  go_enter Tryz.func40, Tryz.ntmps40
  go_wp2
  refine wp_name fun w1 hW1 => ?_
  have hw0 := Below.refl w.heap.size w
  have hB1 : Below w.heap.size w w1 := by rw [hW1]; repeat (first | exact Below.refl _ _ | exact hw0 | refine Below.drew ?_ | refine below_drewN ?_ _ | refine bset ?_ (by simp <;> omega) _ | refine bal ?_ _)
  have p1 : w1.cell? ⟨w.heap.size, 1, none⟩ = some (.int .i64 (R : Int)) := by rw [hW1]; simp [go_sem]
  have p2 : w1.cell? ⟨w.heap.size, 2, none⟩ = some (.slice ca code.length cc) := by rw [hW1]; simp [go_sem]
  have p3 : w1.cell? ⟨w.heap.size, 3, none⟩ = some (.slice oa outs.length oc) := by rw [hW1]; simp [go_sem]
  have HRQ1 : Hid (RegsQ w1 (w.heap.size + 1) (upG (startG g R m) 0)) := Lib.hid (by
    have := regsQ_new (w.alloc (.cells #[.int .i64 ins, .int .i64 (R : Int), .slice ca code.length cc, .slice oa outs.length oc] 27)) (startG g R m)
    rw [HSL.out] at this
    rw [hW1]
    simpa using this)
  obtain ⟨rb, hrb⟩ : ∃ rb, rb = w.heap.size + 1 := ⟨_, rfl⟩
  rw [← hrb] at HRQ1 ⊢
  have hne : ¬ w.heap.size = rb := by omega
  have hneg : ¬ gb = rb := by omega
  have HP := Lib.hid (show ∀ W, Out (fun k => k = rb) w1 W → W.cell? ⟨w.heap.size, 1, none⟩ = some (.int .i64 (R : Int)) ∧ W.cell? ⟨w.heap.size, 2, none⟩ = some (.slice ca code.length cc) ∧ W.cell? ⟨w.heap.size, 3, none⟩ = some (.slice oa outs.length oc) from fun W h => ⟨okeep h p1 hne, okeep h p2 hne, okeep h p3 hne⟩)
  have hrbz : w.heap.size ≤ rb := by omega
  have HB1 := Lib.hid hB1
  clear hW1 hmk p1 p2 p3 hrb hw0 hB
  go_loopw [8] (fun x wr => ∃ k : Nat, k ≤ R ∧ x = .int .i64 k ∧ Out (fun q => q = rb) w1 wr ∧ Hid (RegsQ wr rb (upG (startG g R m) k))) (fun x _ => R - (intOf x).toNat)
  case atStart => exact ⟨0, Nat.zero_le _, rfl, Out.refl _ _, HRQ1⟩
  case round =>
    obtain ⟨k, hk, rfl, hO, hRQ⟩ := hrel
    obtain ⟨p1, p2, p3⟩ := HP.out wr hO
    have zp := cell_lt p1
    have hBr : Below w.heap.size w wr := HB1.out.trans (hO.to_below (fun q hq _ e => by omega) HB1.out.size)
    by_cases hlt : k < R
    · have hltI : (k : Int) < (R : Int) := by omega
      have hu0 := bkeep hBr HU0.out
      have zu0 := cell_lt hu0
      have zc := fun W => rzero_c m W (by omega)
      have HSET := Lib.hid (upG_set (S := startG g R m) (k := k) (by rw [HSL.out]; exact hlt))
      have hw := Below.refl wr.heap.size wr
      go_wp2_with fail
      refine (zc _).mono ?_
      rintro e w5 ⟨⟨a5, c5, rfl, h5⟩, hb5⟩
      have hb5' : Below wr.heap.size wr w5 := bthen (by repeat (first | exact Below.refl _ _ | exact hw | refine Below.drew ?_ | refine below_drewN ?_ _ | refine bset ?_ (by simp <;> omega) _ | refine bal ?_ _)) hb5
      have hR5 := hRQ.out.keep hb5'
      have hkl : k < (upG (startG g R m) k).length := by rw [upG_len (by rw [HSL.out]; omega), HSL.out]; exact hlt
      obtain ⟨uo, o0, -⟩ := hR5.cell k hkl
      have of0 := hR5.free.2 k
      have zo := cell_lt o0
      have HR6 := Lib.hid (hR5.step (h5.row.rebase (Nat.zero_le _)) hkl)
      have hO5 := hO.below hb5'
      clear hR5 zc h5 hu0
      go_upto_region 6 with (fail)
      refine wp_name fun w6 hW6 => ?_
      have HR6' : Hid (RegsQ w6 rb ((upG (startG g R m) k).set k (List.replicate m 0))) := Lib.hid (by rw [hW6]; exact HR6.out)
      have hO6 : Out (fun q => q = rb) w1 w6 := by rw [hW6]; exact hO5.set (fun _ => rfl) _
      clear hW6 HR6 o0 of0 hO5
      have hB6 : Below w.heap.size w w6 := HB1.out.trans (hO6.to_below (fun q hq _ e => by omega) HB1.out.size)
      by_cases hkg : k < g.length
      · have hkgI : (k : Int) < (g.length : Int) := by omega
        obtain ⟨gb', go', u, he, hu, hrow⟩ := HV.out k hkg
        cases he
        rw [show (g[k]'hkg) = g.getD k [] by simp [hkg]] at hrow
        have hu6 := bkeep hB6 hu
        obtain ⟨uo2, o2, -⟩ := HR6'.out.cell k (by rw [List.length_set]; exact hkl)
        have of2 := HR6'.out.free.2 k
        have zo2 := cell_lt o2
        have HR7 := Lib.hid (show RegsQ (w6.setCell ⟨rb, k, none⟩ u) rb (upG (startG g R m) (k + 1)) by
          have h7 := HR6'.out.step (hrow.keep lims_ref hB6) (by rw [List.length_set]; exact hkl)
          rwa [List.set_set, show g.getD k [] = (startG g R m).getD k [] from (startG_lo hkg).symm, HSET.out] at h7)
        have hO7 : Out (fun q => q = rb) w1 (w6.setCell ⟨rb, k, none⟩ u) := hO6.set (fun _ => rfl) _
        obtain ⟨ra, rn, rcc, rfl⟩ : ∃ a n c, u = Value.slice a n c := by obtain ⟨a, c, h, _⟩ := hrow; exact ⟨a, _, c, h⟩
        clear hu hrow HSET
        go_wp2
        exact ⟨⟨k + 1, by omega, by go_num, hO7, HR7⟩, by simp [intOf]; omega⟩
      · have hkgI : ¬ (k : Int) < (g.length : Int) := by omega
        have HR7 := Lib.hid (show RegsQ w6 rb (upG (startG g R m) (k + 1)) by
          have h7 := HR6'.out
          rwa [show List.replicate m 0 = (startG g R m).getD k [] from (startG_hi (by omega) hlt).symm, HSET.out] at h7)
        clear HSET
        go_wp2
        exact ⟨⟨k + 1, by omega, by go_num, hO6, HR7⟩, by simp [intOf]; omega⟩
    · obtain rfl : k = R := by omega
      have HRR := Lib.hid (show RegsQ wr rb (startG g k m) by
        have := hRQ.out
        have e := upG_all (startG g k m)
        rw [HSL.out] at e
        rw [e] at this
        exact this)
      have hzr : rb < wr.heap.size := HRR.out.free.1
      have HOX := Lib.hid hO
      have HSR := Lib.hid (startG_rect (regs := k) HRE.out)
      have HSB := Lib.hid (startG_bd (regs := k) (n := m) HBD.out)
      have HBX := Lib.hid hBr
      have hbase : w.heap.size ≤ wr.heap.size := hBr.size
      obtain ⟨G, hG⟩ : ∃ G, startG g k m = G := ⟨_, rfl⟩
      rw [hG] at HSL HRR HSR HSB
      have HGG := Lib.hid hG
      obtain ⟨w2, hw2⟩ : ∃ w2, wr = w2 := ⟨_, rfl⟩
      rw [hw2] at HRR hzr HOX HBX hbase p1 p2 p3 zp ⊢
      clear hw2 hG hO hBr hRQ
      go_wp2
      go_loopw [9, 10] (fun v x wq => ∃ n : Nat, n ≤ code.length ∧ x = .int .i64 n ∧ Out (fun q => q = rb) w2 wq ∧ Hid (OwnLB 91 (RRow 0) w2.heap.size wq v (told code G n)) ∧ Hid (∃ h, after code G n = some h ∧ RegsQ wq rb h)) (fun _ x _ => code.length - (intOf x).toNat)
      case atStart => exact ⟨0, Nat.zero_le _, rfl, Out.refl _ _, Lib.hid (OwnLB.nil _ _ _ _), Lib.hid ⟨G, rfl, HRR.out⟩⟩
      case round =>
        rename World => wq
        obtain ⟨n, hn, rfl, hO, hT, hrel⟩ := hrel
        obtain ⟨h, hs, hI⟩ := hrel.out
        have hOX := HOX.out.trans hO
        obtain ⟨p1, p2, p3⟩ := HP.out wq hOX
        have zp := cell_lt p2
        have hBq : Below w.heap.size w wq := HB1.out.trans (hOX.to_below (fun q hq _ e => by omega) HB1.out.size)
        have HS := Lib.hid (And.intro hs hI)
        have hsl := (after_len hs).trans HSL.out
        have HRC := Lib.hid (after_rect HSR.out HSL.out (fun n hn => by have := (ins_of HOK.out hn).a1; have := (ins_of HOK.out hn).a0; rw [Int.toNat_natCast] at *; omega) hn hs)
        have HBN := Lib.hid (after_bd HSB.out (cs_of HOK.out) hn hs)
        have HHL := Lib.hid hsl
        have hsz2 : w2.heap.size ≤ wq.heap.size := hO.size
        obtain ⟨ta, tc, htv⟩ := hT.out.ex
        rw [told_len] at htv
        subst htv
        clear hs hI hrel hsl
        have hcl := HOK.out.c1
        by_cases hlt : n < code.length
        · have hltI : (n : Int) < (code.length : Int) := by omega
          rcases HC.out.1 with h00 | ⟨cb, co, rfl, hcap, hcell⟩
          · rw [h00] at hlt; simp at hlt
          obtain ⟨q0, q1, q2, q3, q4⟩ := hcell n hlt
          have zcb := cell_lt q0
          have hcb : ¬ cb = rb := by omega
          have HQ1 := Lib.hid q1
          replace q0 := bkeep hBq q0
          replace q1 := bkeep hBq q1
          replace q2 := bkeep hBq q2
          replace q3 := bkeep hBq q3
          replace q4 := bkeep hBq q4
          have zq := cell_lt q0
          have hio := ins_of HOK.out hlt
          rw [Int.toNat_natCast] at hio
          have dc := fun W (q : Below wq.heap.size wq W) => rdo_c (code.getD n default) (K + 65 * n) rb k m h W (HS.out.2.keep q) (by rw [HHL.out]; exact hio) HRC.out (by omega) HBN.out (by omega) (by rw [HHL.out]; exact hR128)
          rw [HHL.out] at dc
          have HNX := Lib.hid (fun (h : Grid) (e : after code G n = some h) => (show after code G (n + 1) = (stepR (code.getD n default) (h.getD (code.getD n default).a.toNat []) (h.getD (code.getD n default).b.toNat [])).map fun r => h.set (code.getD n default).to.toNat r by rw [after, e]; rfl))
          have t0 := hio.t0
          have t1 := hio.t1
          obtain ⟨Z, hZ⟩ : ∃ Z, stepR (code.getD n default) (h.getD (code.getD n default).a.toNat []) (h.getD (code.getD n default).b.toNat []) = Z := ⟨_, rfl⟩
          rw [hZ] at dc
          have HZ := Lib.hid hZ
          have HTO := Lib.hid (fun (r : List Int) (e : Z = some r) => toldR_eq HS.out.1 (HZ.out.trans e))
          obtain ⟨i, hi⟩ : ∃ i, i = code.getD n default := ⟨_, rfl⟩
          rw [← hi] at q0 q1 q2 q3 q4 dc t0 t1 HQ1
          have HIN := Lib.hid hi
          clear hi hcell hio hZ
          obtain ⟨op, it, ia, ib, ic⟩ := i
          dsimp only at q0 q1 q2 q3 q4 t0 t1 HQ1
          obtain ⟨nt, rfl⟩ : ∃ x : Nat, it = x := ⟨it.toNat, by omega⟩
          have t1' : nt < k := by omega
          unfold Ins.v at dc
          dsimp only at dc
          unfold AnsQ at dc
          have hw := Below.refl wq.heap.size wq
          cases Z with
          | none =>
            dsimp only at dc
            go_wp2_with fail
            refine (dc _ (by repeat (first | exact Below.refl _ _ | exact hw | refine Below.drew ?_ | refine below_drewN ?_ _ | refine bset ?_ (by simp <;> omega) _ | refine bal ?_ _))).mono ?_
            rintro e w5 ⟨rfl, hb5⟩
            have hB5 : Below wq.heap.size wq w5 := bthen (by repeat (first | exact Below.refl _ _ | exact hw | refine Below.drew ?_ | refine below_drewN ?_ _ | refine bset ?_ (by simp <;> omega) _ | refine bal ?_ _)) hb5
            have HT5 := Lib.hid ((hT.out.keep (prs_row lims_ref _ _) hB5).ownL (bthen hBq hB5) hbase)
            have HFA := Lib.hid (show after code G (n + 1) = none by rw [HNX.out h HS.out.1, HZ.out]; rfl)
            clear dc
            go_wp2
            go_ret3
            have e := HGG.out
            subst e
            exact ⟨.inl ⟨n, h, _, hlt, HS.out.1, HFA.out, rfl, HT5.out⟩, bthen hBq hB5⟩
          | some z =>
            dsimp only at dc
            go_wp2_with fail
            refine (dc _ (by repeat (first | exact Below.refl _ _ | exact hw | refine Below.drew ?_ | refine below_drewN ?_ _ | refine bset ?_ (by simp <;> omega) _ | refine bal ?_ _))).mono ?_
            rintro e w5 ⟨⟨v5, rfl, hi5⟩, hb5⟩
            have hB5 : Below wq.heap.size wq w5 := bthen (by repeat (first | exact Below.refl _ _ | exact hw | refine Below.drew ?_ | refine below_drewN ?_ _ | refine bset ?_ (by simp <;> omega) _ | refine bal ?_ _)) hb5
            have hBw5 := bthen hBq hB5
            have HV5 := Lib.hid hi5
            obtain ⟨a5, n5, c5, rfl⟩ : ∃ a n c, v5 = Value.slice a n c := by obtain ⟨a, c, h, _⟩ := hi5; exact ⟨a, _, c, h⟩
            have hT5 := hT.out.keep (prs_row lims_ref _ _) hB5
            have hR5 := HS.out.2.keep hB5
            have hnt : nt < h.length := by rw [HHL.out]; exact t1'
            have q15 := bkeep hBw5 HQ1.out
            have zq15 := cell_lt q15
            have p25 := bkeep hB5 p2
            have zp25 := cell_lt p25
            obtain ⟨u0, o0, -⟩ := hR5.cell nt hnt
            have of0 := hR5.free.2 nt
            have zo := cell_lt o0
            have hN : Hid (∀ W, W = w5.setCell ⟨rb, nt, none⟩ (.slice a5 n5 c5) → RegsQ W rb (h.set nt z) ∧ RRow 0 W (.slice a5 n5 c5) z ∧ Out (fun q => q = rb) w2 W ∧ OwnLB 91 (RRow 0) w2.heap.size W (.slice ta n tc) (told code G n)) := Lib.hid fun W hW => by
              subst hW
              have hk : Kp (· ≠ 91) w5 (w5.setCell ⟨rb, nt, none⟩ (.slice a5 n5 c5)) := (Kp.refl _ w5).set (fun t ht => by rw [hR5.ty] at ht; cases ht; exact fun k => k rfl) _
              exact ⟨hR5.step HV5.out hnt, HV5.out.kp lims_ref hk (by decide) (by decide), (hO.below hB5).set (fun _ => rfl) _, hT5.set (prs_row lims_ref _ _) hR5.ty (by decide) hzr _⟩
            have HST := Lib.hid (show after code G (n + 1) = some (h.set nt z) by rw [HNX.out h HS.out.1, HZ.out, ← HIN.out, Option.map_some]; dsimp only; rw [Int.toNat_natCast])
            have HTL := Lib.hid (show told code G n ++ [z] = told code G (n + 1) by rw [told_succ, HTO.out z rfl])
            clear dc hi5 hT5 hR5
            go_upto_region 16 with (fail)
            refine wp_name fun w6 hW6 => ?_
            have HN6 := Lib.hid (hN.out w6 hW6)
            have hz6 : w2.heap.size ≤ w6.heap.size := HN6.out.2.2.1.size
            clear hW6 hN o0 of0 q0 q1 q2 q3 q4 q15 p25 p1 p2 p3
            go_wp2_with (at_builtin; refine appLB elRws (prs_row lims_ref _ _) (by decide) (by rfl) (by rfl) (HN6.out.2.2.2.keep (prs_row lims_ref _ _) (bal (Below.refl _ _) _)) (Nat.le_trans hz6 (by simp)) (HN6.out.2.1.keep lims_ref (bal (Below.refl _ _) _)) (by rfl) (by rfl) (cell_new rfl rfl) (by rw [told_len]; omega) (by rw [told_len]; unfold maxLen; omega) ?_)
            intro v7 w7 hT7 hk7 ho7
            rw [HTL.out] at hT7
            have HT7 := Lib.hid hT7
            have HR7 := Lib.hid (show ∃ h', after code G (n + 1) = some h' ∧ RegsQ w7 rb h' from ⟨_, HST.out, (HN6.out.1.keep (bal (Below.refl _ _) _)).grown hk7 ho7 hzr⟩)
            have hO7 : Out (fun q => q = rb) w2 w7 := ((HN6.out.2.2.1.alloc _).then ho7 fun i h1 h2 => by omega)
            clear hT7 hk7 ho7 HN6
            go_wp2
            exact ⟨⟨n + 1, by omega, by go_num, hO7, HT7, HR7⟩, by simp [intOf]; omega⟩
        · obtain rfl : n = code.length := by omega
          have HTF := Lib.hid hT.out
          have hbw := Below.refl wq.heap.size wq
          have HBQ := Lib.hid hBq
          obtain ⟨w3, hw3⟩ : ∃ w3, wq = w3 := ⟨_, rfl⟩
          rw [hw3] at HTF hbw HBQ HS p1 p2 p3 zp ⊢
          clear hw3 hT hBq hO hOX
          have HP3 := Lib.hid (And.intro p2 p3)
          go_wp2
          go_loopw [13, 14] (fun u x wz => ∃ q : Nat, q ≤ outs.length ∧ x = .int .i64 q ∧ Hid (OwnL 91 (RRow 0) w3 wz u (outsG (outs.take q) h))) (fun _ x _ => outs.length - (intOf x).toNat)
          case atStart => exact ⟨0, Nat.zero_le _, rfl, Lib.hid (OwnL.nil _ _ hbw)⟩
          case round =>
            rename World => wz
            obtain ⟨q, hq, rfl, hO⟩ := hrel
            have hbz := hO.out.bel
            have hBz := bthen HBQ.out hbz
            have hol := HOK.out.o2
            have hlen : (outsG (outs.take q) h).length = q := by simp [outsG]; omega
            obtain ⟨va, vc, hv⟩ := hO.out.ex
            rw [hlen] at hv
            subst hv
            have HLEN := Lib.hid hlen
            have p3 := bkeep hbz HP3.out.2
            have zp3 := cell_lt p3
            clear hlen
            by_cases hlt3 : q < outs.length
            · have hltI : (q : Int) < (outs.length : Int) := by omega
              obtain ⟨q1, q2⟩ := HOK.out.os q hlt3
              rcases HC.out.2 with h00 | ⟨ob, off, rfl, hcap, hcell⟩
              · rw [h00] at hlt3; simp at hlt3
              have hc := bkeep hBz (hcell q hlt3)
              have zob := cell_lt hc
              obtain ⟨r, hr⟩ : ∃ r : Nat, outs.getD q 0 = r := ⟨(outs.getD q 0).toNat, by omega⟩
              rw [hr] at hc q1 q2
              have hrl : r < k := by omega
              have hrl2 : r < h.length := by rw [HHL.out]; exact hrl
              obtain ⟨u, hu, hrow⟩ := HS.out.2.cell r hrl2
              have hu2 := bkeep hbz hu
              have zu := cell_lt hu2
              have HROW := Lib.hid (hrow.keep lims_ref hbz)
              have HN := Lib.hid (show outsG (outs.take (q + 1)) h = outsG (outs.take q) h ++ [h.getD r []] by
                rw [List.take_succ_eq_append_getElem hlt3]
                have e : outs[q] = r := by rw [← hr]; simp [hlt3]
                unfold outsG; rw [List.map_append, List.map_singleton, e, Int.toNat_natCast])
              obtain ⟨ua, un, uc, rfl⟩ : ∃ a n c, u = Value.slice a n c := by obtain ⟨a, c, h, _⟩ := hrow; exact ⟨a, _, c, h⟩
              obtain ⟨L, hL⟩ : ∃ L, h.getD r [] = L := ⟨_, rfl⟩
              rw [hL] at HROW HN
              clear hr hcell hu hL hrow
              go_wp2_with (at_builtin; refine appL elRws (prs_row lims_ref _ _) (by decide) (by rfl) (by rfl) (hO.out.below (prs_row lims_ref _ _) (bal (Below.refl _ _) _)) (HROW.out.keep lims_ref (bal (Below.refl _ _) _)) (by rfl) (by rfl) (cell_new rfl rfl) (by rw [HLEN.out]; omega) (by rw [HLEN.out]; unfold maxLen; omega) ?_)
              intro v' w8 hO8 hk8
              rw [← HN.out] at hO8
              have HO8 := Lib.hid hO8
              clear hO8 hk8
              go_wp2
              exact ⟨⟨q + 1, by omega, by go_num, HO8⟩, by simp [intOf]; omega⟩
            · obtain rfl : q = outs.length := by omega
              rw [List.take_length] at hO
              have HT9 := Lib.hid ((HTF.out.keep (prs_row lims_ref _ _) hbz).ownL hBz hbase)
              have HO9 := Lib.hid (hO.out.rebase HBQ.out)
              go_wp2
              go_ret3
              have e := HGG.out
              subst e
              exact ⟨.inr ⟨h, _, _, HS.out.1, rfl, HT9.out, HO9.out⟩, hBz⟩
end Go.Proofs.YtdllbdfchloijaaGreatDoor

/- exact: run on rows, told to a loop's body. -/
namespace Go.Proofs.YtdllbdfchloijaaGreatDoor
open Num
open Go.ChangeShapes Go.WideShapes Go.ChangeAt Go.RowKit
set_option linter.unusedVariables false
set_option linter.unusedSimpArgs false
attribute [local go_sem ↓] Go.wp_at_zero Go.wp_at_succ
/-- a row that lies in none of the blocks S -/
def PRowX (S : Nat → Prop) (w : World) (v : Value) (l : List Int) : Prop := PRow 0 w v l ∧ (l = [] ∨ ∀ b, rowBlk v = some b → ¬ S b)
section
variable {S S' : Nat → Prop} {w w' : World} {v : Value} {l : List Int} {base : Nat}
theorem PRowX.keep (h : PRowX S w v l) (k : Below w.heap.size w w') : PRowX S w' v l := ⟨h.1.keep lims_int k, h.2⟩
theorem Soil.lt (h : Soil S w) {q : Nat} (hq : S q) : q < w.heap.size := by obtain ⟨t, ht, _⟩ := h q hq; exact typ_lt ht
theorem PRowX.of (h : PRow base w v l) (hS : ∀ q, S q → q < base) : PRowX S w v l := by
  refine ⟨h.rebase (Nat.zero_le _), ?_⟩
  obtain ⟨a, c, rfl, _, _, h4⟩ := h
  rcases h4 with h4 | ⟨b, off, rfl, hb, _⟩
  · exact .inl h4
  · refine .inr fun q hq hs => ?_
    simp [rowBlk] at hq
    subst hq
    have := hS _ hs
    omega
theorem OutT.lim (h : OutT S w w') (hS : Soil S w) : Lim w w' := fun q ht => by
  have hq : ¬ S q := fun hs => by
    obtain ⟨t, h1, h2⟩ := hS q hs
    rw [ht] at h1; cases h1; exact h2 rfl
  have e := h.1.block q (typ_lt ht) hq
  exact ⟨by rw [typ_of_block (w := w) e]; exact ht, fun o n hc => by rw [World.cell?_of_block (w := w) e]; exact hc⟩
theorem PRowX.told (h : PRowX S w v l) (ho : OutT S w w') (hS : Soil S w) (hg : Grew S S' w) : PRowX S' w' v l := by
  obtain ⟨⟨a, c, rfl, h1, h2, h4⟩, hx⟩ := h
  rcases h4 with h4 | ⟨b, off, rfl, hb, ht, hi⟩
  · exact ⟨⟨a, c, rfl, h1, h2, .inl h4⟩, .inl h4⟩
  · rcases hx with hx | hx
    · exact ⟨⟨_, c, rfl, h1, h2, .inl hx⟩, .inl hx⟩
    · have hn : ¬ S b := hx b rfl
      have e := ho.1.block b (typ_lt ht) hn
      refine ⟨⟨_, c, rfl, h1, h2, .inr ⟨b, off, rfl, hb, by rw [typ_of_block (w := w) e]; exact ht, hi.stay lims_int e (ho.lim hS)⟩⟩, .inr fun q hq hs => ?_⟩
      simp [rowBlk] at hq
      subst hq
      rcases hg _ hs with h | h
      · exact hn h
      · have := typ_lt ht; omega
end
/-- the registers in a block that may be written; their rows lie in none of the blocks S -/
structure RegsX (S : Nat → Prop) (w : World) (rb : Nat) (g : Grid) : Prop where
  free : Free w rb
  ty : typOf w rb = some 43
  cell : ∀ k, k < g.length → ∃ u, w.cell? ⟨rb, k, none⟩ = some u ∧ PRowX S w u (g.getD k [])
section
variable {S S' : Nat → Prop} {w w' : World} {rb base : Nat} {g : Grid}
theorem RegsX.regs (h : RegsX S w rb g) : RegsP 0 w rb g := ⟨h.free, h.ty, fun k hk => by obtain ⟨u, hu, hr⟩ := h.cell k hk; exact ⟨u, hu, hr.1⟩⟩
theorem RegsX.keep (h : RegsX S w rb g) (k : Below w.heap.size w w') : RegsX S w' rb g :=
  ⟨h.free.keep k, typ_keep h.ty k, fun j hj => by obtain ⟨u, hu, hr⟩ := h.cell j hj; exact ⟨u, bkeep k hu, hr.keep k⟩⟩
theorem RegsX.of (h : RegsP base w rb g) (hS : ∀ q, S q → q < base) : RegsX S w rb g :=
  ⟨h.free, h.ty, fun j hj => by obtain ⟨u, hu, hr⟩ := h.cell j hj; exact ⟨u, hu, .of hr hS⟩⟩
theorem RegsX.told (h : RegsX S w rb g) (hr : ¬ S rb) (ho : OutT S w w') (hS : Soil S w) (hg : Grew S S' w) : RegsX S' w' rb g :=
  ⟨h.free.out ho.1 hr, typ_outK h.ty ho.1 hr, fun j hj => by obtain ⟨u, hu, hr'⟩ := h.cell j hj; exact ⟨u, okeep ho.1 hu hr, hr'.told ho hS hg⟩⟩
theorem RegsX.step {nt : Nat} {v : Value} {r : List Int} (h : RegsX S w rb g) (hv : PRowX S w v r) (ht : nt < g.length) : RegsX S (w.setCell ⟨rb, nt, none⟩ v) rb (g.set nt r) := by
  have hk : Kp (· ≠ 43) w (w.setCell ⟨rb, nt, none⟩ v) := (Kp.refl _ w).set (fun t ht => by rw [h.ty] at ht; cases ht; exact fun k => k rfl) _
  have hp : ∀ {u : Value} {l : List Int}, PRowX S w u l → PRowX S (w.setCell ⟨rb, nt, none⟩ v) u l := fun h => ⟨h.1.kp lims_int hk (by decide) (by decide), h.2⟩
  refine ⟨h.free.set _ _, by rw [typ_set]; exact h.ty, fun k hk' => ?_⟩
  rw [List.length_set] at hk'
  by_cases e : nt = k
  · subst e
    obtain ⟨u, hu, _⟩ := h.cell nt hk'
    refine ⟨v, cell_here hu _, ?_⟩
    have : (g.set nt r).getD nt [] = r := by simp [hk']
    rw [this]
    exact hp hv
  · obtain ⟨u, hu, hr⟩ := h.cell k hk'
    refine ⟨u, cell_far hu (fun e2 => e (by cases e2; rfl)) _, ?_⟩
    have : (g.set nt r).getD k [] = g.getD k [] := by simp [List.getElem?_set_ne e]
    rw [this]
    exact hp hr
end
/-- how many instructions are told -/
structure ToldG (code : List Ins) (g : Grid) (m : Nat) : Prop where
  le : m ≤ code.length
  has : ∃ h, after code g m = some h
  stop : m < code.length → after code g (m + 1) = none
theorem ToldG.lt {code : List Ins} {g h : Grid} {m n : Nat} (t : ToldG code g m) (hn : n < code.length) (e : after code g (n + 1) = some h) (hm : n ≤ m) : n < m := by
  rcases Nat.lt_or_ge n m with h1 | h1
  · exact h1
  · obtain rfl : n = m := by omega
    rw [t.stop hn] at e; cases e
theorem ToldG.eq {code : List Ins} {g : Grid} {m n : Nat} (t : ToldG code g m) (e : after code g (n + 1) = none) (hm : n ≤ m) : n = m := by
  rcases Nat.lt_or_ge n m with h1 | h1
  · obtain ⟨s, hs⟩ := t.has
    rw [after_mono e (show n + 1 ≤ m by omega)] at hs; cases hs
  · omega
end Go.Proofs.YtdllbdfchloijaaGreatDoor

/- exact: Steps: what its iterator tells. -/
namespace Go.Proofs.YtdllbdfchloijaaGreatDoor
open Num
open Go.ChangeShapes Go.WideShapes Go.ChangeAt Go.RowKit
set_option linter.unusedVariables false
set_option linter.unusedSimpArgs false
attribute [local go_sem ↓] Go.wp_at_zero Go.wp_at_succ
/-- what is told: the k-th row, in memory of its own -/
def AR (n0 : Nat) (T : Nat → List Int) (k : Nat) (args : Array Value) (X : World) : Prop := ∃ v base, args = #[.int .i64 (k : Int), v] ∧ n0 ≤ base ∧ RowO IsInt 50 base X v (T k)
/-- the block of what is told -/
def XsR (args : Array Value) (q : Nat) : Prop := ∃ v, args[1]? = some v ∧ rowBlk v = some q
theorem AR.cells {n0 : Nat} {T : Nat → List Int} {k q : Nat} {args : Array Value} {X : World} (h : AR n0 T k args X) (hq : XsR args q) : ∃ o, X.heap[q]? = some o ∧ o.isCells = true := by
  obtain ⟨v, base, rfl, _, hr⟩ := h
  obtain ⟨v', e, hb⟩ := hq
  simp at e
  subst e
  exact typ_cells (rowO_blk hr hb).2
theorem OutT.base {S X : Nat → Prop} {a b c : World} (k : Below a.heap.size a b) (h : OutT (fun q => S q ∨ X q) b c) (hx : ∀ q, X q → a.heap.size ≤ q) (hS : ∀ q, S q → q < a.heap.size) : OutT S a c := by
  refine ⟨⟨h.1.os.trans k.os, h.1.tape.trans k.tape, h.1.output.trans k.output, Nat.le_trans k.size h.1.size, fun q hq hs => (h.1.block q (Nat.lt_of_lt_of_le hq k.size) fun e => ?_).trans (k.block q hq)⟩, fun q hq hl => ?_⟩
  · rcases e with e | e
    · exact hs e
    · have := hx q e; omega
  · rw [h.2 q (.inl hq) (Nat.lt_of_lt_of_le hl k.size)]
    unfold typOf; rw [k.block q hl]
/-- what the iterator finds -/
structure StepsIn (n0 : Nat) (S0 : Nat → Prop) (pb xb : Nat) (ins regs : Int) (ca oa : Option Addr) (cc oc : Nat) (code : List Ins) (outs : List Int) (v : Value) (g : Grid) (W : World) : Prop where
  p0 : W.cell? ⟨pb, 0, none⟩ = some (.int .i64 ins)
  p1 : W.cell? ⟨pb, 1, none⟩ = some (.int .i64 regs)
  p2 : W.cell? ⟨pb, 2, none⟩ = some (.slice ca code.length cc)
  p3 : W.cell? ⟨pb, 3, none⟩ = some (.slice oa outs.length oc)
  x0 : W.cell? ⟨xb, 0, none⟩ = some v
  hc : InsV W ca cc code
  ho : IntsV W oa oc outs
  hv : GridV W v g
  hm : (g.getD 0 []).length ≤ 1099511627775
  lt : ∀ q, S0 q → q < n0
  le : n0 ≤ W.heap.size
  nc : ∀ b off, ca = some ⟨b, off, none⟩ → 0 < code.length → ¬ S0 b
section
variable {n0 : Nat} {S0 : Nat → Prop} {pb xb : Nat} {ins regs : Int} {ca oa : Option Addr} {cc oc : Nat} {code : List Ins} {outs : List Int} {v : Value} {g : Grid} {W W' : World}
theorem StepsIn.keep (h : StepsIn n0 S0 pb xb ins regs ca oa cc oc code outs v g W) (k : Below W.heap.size W W') : StepsIn n0 S0 pb xb ins regs ca oa cc oc code outs v g W' :=
  ⟨bkeep k h.p0, bkeep k h.p1, bkeep k h.p2, bkeep k h.p3, bkeep k h.x0, h.hc.keep k, h.ho.keep k, h.hv.keep (prs_row lims_int _ _) k, h.hm, h.lt, Nat.le_trans h.le k.size, h.nc⟩
end
end Go.Proofs.YtdllbdfchloijaaGreatDoor

/- exact: Widest. -/
namespace Go.Proofs.YtdllbdfchloijaaGreatDoor
open Num
open Go.ChangeShapes Go.WideShapes Go.ChangeAt Go.RowKit
set_option linter.unusedVariables false
set_option linter.unusedSimpArgs false
attribute [local go_sem ↓] Go.wp_at_zero Go.wp_at_succ
attribute [local go_sem] Oper.semAt_some
/-- a variable in memory that holds a number -/
def VarI (ub : Nat) (m : Int) (W : World) : Prop := typOf W ub = some 50 ∧ ∃ n a ln c, W.cell? ⟨ub, 0, none⟩ = some (.bool n) ∧ W.cell? ⟨ub, 1, none⟩ = some (.slice a ln c) ∧ W.frozen? ⟨ub, 0, none⟩ = false ∧ W.frozen? ⟨ub, 1, none⟩ = false ∧ IsInt W (.agg #[.bool n, .slice a ln c]) m
theorem VarI.keep {ub : Nat} {m : Int} {W V : World} (h : VarI ub m W) (k : Below W.heap.size W V) : VarI ub m V := by
  obtain ⟨ht, n, a, ln, c, h0, h1, f0, f1, hi⟩ := h
  exact ⟨typ_keep ht k, n, a, ln, c, bkeep k h0, bkeep k h1, bkeepf k h0 f0, bkeepf k h1 f1, hi.keep k⟩
theorem VarI.put {ub : Nat} {m z : Int} {W : World} {n : Bool} {a : Option Addr} {ln c : Nat} (h : VarI ub m W) (hi : IsInt W (.agg #[.bool n, .slice a ln c]) z) : VarI ub z ((W.setCell ⟨ub, 0, none⟩ (.bool n)).setCell ⟨ub, 1, none⟩ (.slice a ln c)) := by
  obtain ⟨ht, n', a', ln', c', h0, h1, f0, f1, _⟩ := h
  refine ⟨by rw [typ_set, typ_set]; exact ht, n, a, ln, c, cell_far (cell_here h0 _) (by simp) _, cell_here (cell_far h1 (by simp) _) _, ?_, ?_, hi.put2 h0 h1 _ _⟩
  · rw [World.frozen?_setCell, World.frozen?_setCell]; exact f0
  · rw [World.frozen?_setCell, World.frozen?_setCell]; exact f1
end Go.Proofs.YtdllbdfchloijaaGreatDoor

/- integer: Sum; row: Dot. -/
namespace Go.Proofs.YtdllbdfchloijaaGreatDoor
open Num
open Go.ChangeShapes Go.WideShapes Go.ChangeAt Go.RowKit
set_option linter.unusedVariables false
set_option linter.unusedSimpArgs false
attribute [local go_sem ↓] Go.wp_at_zero Go.wp_at_succ
end Go.Proofs.YtdllbdfchloijaaGreatDoor

/- matrix: matrices as values; filled. -/
namespace Go.Proofs.YtdllbdfchloijaaGreatDoor
open Num
open Go.ChangeShapes Go.WideShapes Go.ChangeAt Go.RowKit
set_option linter.unusedVariables false
set_option linter.unusedSimpArgs false
attribute [local go_sem ↓] Go.wp_at_zero Go.wp_at_succ
/-- a matrix as a value: its rows lie in blocks from base on -/
def IsM (base : Nat) (w : World) (v : Value) (g : Grid) : Prop := ∃ a c, v = .agg #[.slice a g.length c] ∧ IsL 43 (PRow base) base w (.slice a g.length c) g
theorem prs_prow (base : Nat) : Prs (fun t => t = 106 ∨ t = 50) (PRow base) := prs_row lims_int _ _
theorem IsM.keep {base : Nat} {w w' : World} {v : Value} {g : Grid} (h : IsM base w v g) (k : Below w.heap.size w w') : IsM base w' v g := by
  obtain ⟨a, c, e, h⟩ := h; exact ⟨a, c, e, h.keep (prs_prow base) k⟩
theorem IsM.rebase {base base' : Nat} {w : World} {v : Value} {g : Grid} (h : IsM base w v g) (hb : base' ≤ base) : IsM base' w v g := by
  obtain ⟨a, c, e, h⟩ := h; exact ⟨a, c, e, (h.rebase hb).mono fun u x hx => hx.rebase hb⟩
theorem IsM.nil (base : Nat) (w : World) : IsM base w (.agg #[.slice none 0 0]) [] := ⟨none, 0, rfl, IsL.nil _ _ _ _⟩
/-- a function value that tells the number at a place -/
def FnF (f : Nat → Nat → Int) (n m F : Nat) (caps : Array Value) (w : World) : Prop :=
  ∀ W i j, i < n → j < m → Below w.heap.size w W → Calls Tryz.prog F (#[.int .i64 (i : Nat), .int .i64 (j : Nat)] ++ caps) W fun e w' => (∃ v, e = .returned v ∧ IsInt w' v (f i j)) ∧ Below W.heap.size W w'
end Go.Proofs.YtdllbdfchloijaaGreatDoor

/- matrix: Rows, Cols, square, Identity; a matrix in a variable. -/
namespace Go.Proofs.YtdllbdfchloijaaGreatDoor
open Num
open Go.ChangeShapes Go.WideShapes Go.ChangeAt Go.RowKit
set_option linter.unusedVariables false
set_option linter.unusedSimpArgs false
attribute [local go_sem ↓] Go.wp_at_zero Go.wp_at_succ
/-- the number at a place -/
def gat (g : Grid) (i j : Nat) : Int := (g.getD i []).getD j 0
theorem IsM.lit {base : Nat} {w : World} {v : Value} {g : Grid} (h : IsM base w v g) : ∃ a c, v = .agg #[.slice a g.length c] := by obtain ⟨a, c, e, _⟩ := h; exact ⟨a, c, e⟩
/-- a matrix in a variable -/
def BoxM (b : Nat) (w : World) (g : Grid) : Prop := ∃ a c, w.cell? ⟨b, 0, none⟩ = some (.slice a g.length c) ∧ IsL 43 (PRow 0) 0 w (.slice a g.length c) g
theorem BoxM.keep {b : Nat} {w w' : World} {g : Grid} (h : BoxM b w g) (k : Below w.heap.size w w') : BoxM b w' g := by
  obtain ⟨a, c, e, h⟩ := h; exact ⟨a, c, bkeep k e, h.keep (prs_prow 0) k⟩
theorem IsL.row {base : Nat} {w : World} {v : Value} {g : Grid} (h : IsL 43 (PRow base) base w v g) {i : Nat} (hi : i < g.length) :
    ∃ c gb go ra rc, v = .slice (some ⟨gb, go, none⟩) g.length c ∧ w.cell? ⟨gb, go + i, none⟩ = some (.slice ra (g.getD i []).length rc) ∧ PRow base w (.slice ra (g.getD i []).length rc) (g.getD i []) := by
  obtain ⟨a, c, e, _, hv⟩ := h.view
  obtain ⟨gb, go, u, rfl, hu, hr⟩ := hv i hi
  have e2 : g[i] = g.getD i [] := by simp [hi]
  rw [e2] at hr
  have hr2 := hr
  obtain ⟨ra, rc, rfl, _⟩ := hr2
  exact ⟨c, gb, go, ra, rc, e, hu, hr⟩
theorem BoxM.row {b : Nat} {w : World} {g : Grid} (h : BoxM b w g) {i : Nat} (hi : i < g.length) :
    ∃ c gb go ra rc, w.cell? ⟨b, 0, none⟩ = some (.slice (some ⟨gb, go, none⟩) g.length c) ∧ w.cell? ⟨gb, go + i, none⟩ = some (.slice ra (g.getD i []).length rc) ∧ PRow 0 w (.slice ra (g.getD i []).length rc) (g.getD i []) := by
  obtain ⟨a, c, e, h⟩ := h
  obtain ⟨c', gb, go, ra, rc, e2, hu, hp⟩ := h.row hi
  obtain ⟨rfl, -, rfl⟩ := Value.slice.inj e2
  exact ⟨c, gb, go, ra, rc, e, hu, hp⟩
end Go.Proofs.YtdllbdfchloijaaGreatDoor

/- matrix: Plus, Scale, Turn, Times. -/
namespace Go.Proofs.YtdllbdfchloijaaGreatDoor
open Num
open Go.ChangeShapes Go.WideShapes Go.ChangeAt Go.RowKit
set_option linter.unusedVariables false
set_option linter.unusedSimpArgs false
attribute [local go_sem ↓] Go.wp_at_zero Go.wp_at_succ
/-- numbers of so many bits -/
def BdM (k : Nat) (g : Grid) : Prop := ∀ i j, Bd k (gat g i j)
theorem BdM.mono {k m : Nat} {g : Grid} (h : BdM k g) (hk : k ≤ m) : BdM m g := fun i j => (h i j).mono hk
theorem FnF.mono {f : Nat → Nat → Int} {n m F : Nat} {caps : Array Value} {w w' : World} (h : FnF f n m F caps w) (k : Below w.heap.size w w') : FnF f n m F caps w' := fun W i j hi hj q => h W i j hi hj (bthen k q)
end Go.Proofs.YtdllbdfchloijaaGreatDoor

/- matrix: Scale, Turn. -/
namespace Go.Proofs.YtdllbdfchloijaaGreatDoor
open Num
open Go.ChangeShapes Go.WideShapes Go.ChangeAt Go.RowKit
set_option linter.unusedVariables false
set_option linter.unusedSimpArgs false
attribute [local go_sem ↓] Go.wp_at_zero Go.wp_at_succ
end Go.Proofs.YtdllbdfchloijaaGreatDoor

/- matrix: Times. -/
namespace Go.Proofs.YtdllbdfchloijaaGreatDoor
open Num
open Go.ChangeShapes Go.WideShapes Go.ChangeAt Go.RowKit
set_option linter.unusedVariables false
set_option linter.unusedSimpArgs false
attribute [local go_sem ↓] Go.wp_at_zero Go.wp_at_succ
end Go.Proofs.YtdllbdfchloijaaGreatDoor

