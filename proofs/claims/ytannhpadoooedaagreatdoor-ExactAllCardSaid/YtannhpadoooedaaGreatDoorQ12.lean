/- Texts of this seat, laid together: RtD, RtE, Rnh, ExM, RpB. Each opens with its own remark, which says what it proves, and under which conditions. -/
import Derived.Test.YtannhpadoooedaaGreatDoorQ11
import Derived.Deep.LoopGhost
import Derived.Test.YtannhpadoooedaaGreatDoorQ06
import Derived.Test.YtannhpadoooedaaGreatDoorQ09
import Derived.Test.YtannhpadoooedaaGreatDoorQ02
set_option linter.unusedVariables false
set_option linter.unusedSimpArgs false
/- The reference: Follow: a program over a grid. -/
namespace Go.Proofs.YtannhpadoooedaaGreatDoor
open Num
open Go.ChangeShapes Go.WideShapes Go.ChangeAt Go.RowKit
set_option linter.unusedVariables false
set_option linter.unusedSimpArgs false
attribute [local go_sem ↓] Go.wp_at_zero Go.wp_at_succ
/-- the row that the n-th instruction sets -/
def toldR (code : List Ins) (g : Grid) (n : Nat) : List Int :=
  match after code g n with
  | some h => (stepR (code.getD n default) (h.getD (code.getD n default).a.toNat []) (h.getD (code.getD n default).b.toNat [])).getD []
  | none => []
/-- the rows that the first n instructions set -/
def told (code : List Ins) (g : Grid) (n : Nat) : Grid := (List.range n).map (toldR code g)
theorem told_len (code : List Ins) (g : Grid) (n : Nat) : (told code g n).length = n := by simp [told]
theorem told_succ (code : List Ins) (g : Grid) (n : Nat) : told code g (n + 1) = told code g n ++ [toldR code g n] := by
  unfold told; rw [List.range_succ, List.map_append]; rfl
theorem toldR_eq {code : List Ins} {g h : Grid} {n : Nat} {r : List Int} (e : after code g n = some h) (e2 : stepR (code.getD n default) (h.getD (code.getD n default).a.toNat []) (h.getD (code.getD n default).b.toNat []) = some r) : toldR code g n = r := by
  unfold toldR; rw [e]; dsimp only; rw [e2]; rfl
theorem mkRegsQ (n : Nat) (hn : n ≤ 1099511627776) (w : World) : (Instr.makeSlice 41 (.int .i64 (n : Int)) (.int .i64 (n : Int))).run Tryz.prog w = .ok (.slice (some ⟨w.heap.size, 0, none⟩) n n) (w.alloc (.cells (Array.replicate n (.slice none 0 0)) 31)) := by
  obtain ⟨i0, hi, hz0, hz1, hz2⟩ := info_parts infoRw
  have e : madeCells (Value.slice none 0 0).cells ((n : Int).toNat * 1) = Array.replicate n (.slice none 0 0) := by
    apply Array.ext
    · simp [size_madeCells]
    · intro i h1 h2
      simp [madeCells, Value.cells, Nat.mod_one]
  rw [run_make w _ _ i0 _ Tryz.underlying41 hi hz0 .i64 .i64 n n (by omega) (by omega) (by rw [hz2]; omega) (by omega), hz1, e]
  rfl
theorem regsQ_new (w : World) (S : Grid) : RegsQ (w.alloc (.cells (Array.replicate S.length (.slice none 0 0)) 31)) w.heap.size (upG S 0) :=
  ⟨Free.new rfl, typ_fresh rfl, fun k hk => ⟨.slice none 0 0, cell_new rfl (by rw [upG_len (Nat.zero_le _)] at hk; simp [hk]), by
    rw [upG_len (Nat.zero_le _)] at hk
    rw [show (upG S 0).getD k [] = [] by simp [upG, hk]]
    exact IsRow.nil _ _ _ _⟩⟩
/-- a list of the call's own (from base on), built by append; base is free -/
def OwnLB {α : Type} (T : TypeId) (Pr : World → Value → α → Prop) (base : Nat) (w : World) (v : Value) (g : List α) : Prop :=
  ∃ xs, w.ownsRow base T 1 v g.length xs ∧ ∀ k (hk : k < g.length), ∃ u, xs[k]? = some u ∧ Pr w u g[k]
section
variable {α : Type} {S S' : TypeId → Prop} {T : TypeId} {Pr : World → Value → α → Prop} {base : Nat} {w0 wr w' : World} {v u : Value} {g : List α} {y : α}
theorem OwnLB.nil (T : TypeId) (Pr : World → Value → α → Prop) (base : Nat) (w : World) : OwnLB T Pr base w (.slice none 0 0) [] := ⟨[], World.ownsRow_nil _ _ _ _, fun k hk => absurd hk (by simp)⟩
theorem OwnLB.keep (hP : Prs S Pr) (h : OwnLB T Pr base wr v g) (hb : Below wr.heap.size wr w') : OwnLB T Pr base w' v g := by
  obtain ⟨xs, h1, h2⟩ := h
  refine ⟨xs, owns_kp (S := fun _ => True) h1 (Kp.of_below _ hb) trivial, fun k hk => ?_⟩
  obtain ⟨u, hu, hr⟩ := h2 k hk
  exact ⟨u, hu, hP.kp hr (Kp.of_below _ hb)⟩
theorem OwnLB.ex (h : OwnLB T Pr base wr v g) : ∃ a c, v = .slice a g.length c := by
  obtain ⟨xs, ⟨_, h1⟩, _⟩ := h
  rcases h1 with ⟨rfl, h0⟩ | ⟨b, cap, cur, rfl, _⟩
  · exact ⟨none, 0, by rw [h0]⟩
  · exact ⟨_, _, rfl⟩
theorem OwnLB.ownL (h : OwnLB T Pr base wr v g) (hb : Below w0.heap.size w0 wr) (hs : w0.heap.size ≤ base) : OwnL T Pr w0 wr v g := by
  obtain ⟨xs, ⟨hl, h1⟩, h2⟩ := h
  refine ⟨xs, ⟨⟨hl, ?_⟩, hb⟩, h2⟩
  rcases h1 with h1 | ⟨b, cap, cur, hv, hg, r⟩
  · exact .inl h1
  · exact .inr ⟨b, cap, cur, hv, Nat.le_trans hs hg, r⟩
theorem OwnLB.set (hP : Prs S Pr) (h : OwnLB T Pr base wr v g) {p : Addr} {t : TypeId} (ht : typOf wr p.block = some t) (h2 : ¬ S t) (hp : p.block < base) (y : Value) : OwnLB T Pr base (wr.setCell p y) v g := by
  obtain ⟨xs, hO, hx⟩ := h
  have hk : Kp S wr (wr.setCell p y) := (Kp.refl _ _).set (fun t' ht' => by rw [ht] at ht'; cases ht'; exact h2) y
  refine ⟨xs, ownsRow_setCell_other hO ?_ y, fun k hk' => ?_⟩
  · intro hb
    have := (hO.lt _ hb).1
    omega
  · obtain ⟨u, hu, hr⟩ := hx k hk'
    exact ⟨u, hu, hP.kp hr hk⟩
end
section
variable {α : Type} {P : Program} {TT T : TypeId} {bytes : Nat} {S : TypeId → Prop} {Pr : World → Value → α → Prop} {ops : Array Oper} {o : Oper} {a : Act} {Q : Exit → Act → World → Prop} {base : Nat} {wr : World} {v u : Value} {g : List α} {y : α} {s x : Operand} {cc gb : Nat}
/-- append of one value to such a list -/
theorem appLB {rest : List Oper} (el : Elt P TT T 1 bytes) (hP : Prs S Pr) (hT : ¬ S T) (hgd : o.guard = none)
    (ho : o.op = .call { callee := .builtin .append, args := #[s, x], argTypes := #[TT, TT] }) (hO : OwnLB T Pr base wr v g) (hbase : base ≤ wr.heap.size) (hv : Pr wr u y) (hs : a.eval s = v)
    (hx : a.eval x = .slice (some ⟨gb, 0, none⟩) 1 cc) (hc : wr.cell? ⟨gb, 0, none⟩ = some u) (hn : (g.length + 1) * bytes ≤ 140737488355328) (hn2 : g.length + 1 ≤ maxLen)
    (h : ∀ v' w', OwnLB T Pr base w' v' (g ++ [y]) → Kp (· ≠ T) wr w' → Out (fun k => base ≤ k) wr w' → wpList P ops Q rest (a.put o.dst v') w') : wpList P ops Q (o :: rest) a wr := by
  refine wpList_plain hgd fun K hK => ?_
  obtain ⟨i, z0, hi, hz, hsize, hby, hzs⟩ := el.info
  obtain ⟨xs, h1, h2⟩ := hO
  have hone : u.oneCell' = true := hP.one hv
  refine wp_append_own _ s x TT ho base T i z0 1 bytes el.ht hi hz hsize hby hzs el.pos v g.length xs hs h1 ⟨gb, 0, none⟩ 1 cc [u] hx rfl (fun j y hj => ?_) (fun y hy => by simp at hy; subst hy; exact hone) hn2 hn hbase ?_
  · have hj1 : j < 1 := (List.getElem?_eq_some_iff.1 hj).1
    obtain rfl : j = 0 := by omega
    simp at hj; subst hj
    simpa [Addr.add] using hc
  intro v' w' hown hg _
  have hk : Kp (· ≠ T) wr w' := (Kp.refl _ wr).grown hg fun q hg' t' ht hne => hne (by
    rw [own_typ' h1 hg'] at ht
    exact (Option.some.inj ht).symm)
  refine hK _ _ (h v' w' ⟨_, by simpa using hown, fun j hj => ?_⟩ hk ((Out.refl _ wr).grown hg fun k hk' _ => (h1.lt k hk').1))
  simp at hj
  by_cases e : j < g.length
  · obtain ⟨u', hu', hr⟩ := h2 j e
    exact ⟨u', by rw [List.getElem?_append_left (by rw [h1.1]; omega)]; exact hu', by rw [List.getElem_append_left e]; exact hP.kp hr (hk.weak fun t hs e => hT (e ▸ hs))⟩
  · obtain rfl : j = g.length := by omega
    exact ⟨u, by rw [List.getElem?_append_right (by rw [h1.1]; omega), h1.1]; simp, by rw [List.getElem_append_right (by omega)]; simpa using hP.kp hv (hk.weak fun t hs e => hT (e ▸ hs))⟩
end
theorem RegsQ.grown {wr w' : World} {rb base : Nat} {g : Grid} (h : RegsQ wr rb g) (hk : Kp (· ≠ 31) wr w') (ho : Out (fun k => base ≤ k) wr w') (hb : rb < base) : RegsQ w' rb g := by
  have hx : ¬ (base ≤ rb) := by omega
  exact ⟨h.free.out ho hx, typ_out h.ty ho hx, fun j hj => by
    obtain ⟨u, hu, hr⟩ := h.cell j hj
    exact ⟨u, okeep ho hu hx, hr.kp lims_ref hk (by decide) (by decide)⟩⟩
abbrev GridQ (w : World) (v : Value) (g : Grid) : Prop := IsL 31 (RRow 0) 0 w v g
/-- what Follow answers, where the program may be and the grid fits -/
def FollowP (code : List Ins) (outs : List Int) (G : Grid) (w : World) (e : Ending) (w' : World) : Prop :=
  ((∃ (m : Nat) (h : Grid) (v : Value), m < code.length ∧ after code G m = some h ∧ after code G (m + 1) = none ∧ e = .returned (.tuple #[v, .int .i64 m, .slice none 0 0]) ∧ OwnL 31 (RRow 0) w w' v (told code G m)) ∨
   (∃ (h : Grid) (v u : Value), after code G code.length = some h ∧ e = .returned (.tuple #[v, .int .i64 (-1), u]) ∧ OwnL 31 (RRow 0) w w' v (told code G code.length) ∧ OwnL 31 (RRow 0) w w' u (outsG outs h))) ∧ Below w.heap.size w w'
set_option maxRecDepth 100000 in
set_option maxHeartbeats 16000000 in
theorem follow_c (ins : Int) (R : Nat) (ca oa : Option Addr) (cc oc : Nat) (code : List Ins) (outs : List Int) (vg : Value) (g : Grid) (m K : Nat) (w : World) (hc : InsV w ca cc code) (ho : IntsV w oa oc outs) (hg : GridQ w vg g) (hok : ProgOk ins R code outs) (hle : (g.length : Int) = ins) (hr : Rect m g) (hm : (g.getD 0 []).length = m) (hm2 : m ≤ 4096) (hb : BdG K g) (hK : K ≤ 2147483648) :
    Calls Tryz.prog 16 #[.agg #[.int .i64 ins, .int .i64 (R : Int), .slice ca code.length cc, .slice oa outs.length oc], vg] w (FollowP code outs (startG g R m) w) := by
  have HOK := Lib.hid hok
  have HC := Lib.hid (And.intro hc ho)
  have HM := Lib.hid hm
  have HRE := Lib.hid hr
  have HBD := Lib.hid hb
  obtain ⟨ga, gc, rfl, hgc, hv⟩ := hg.view
  have HV := Lib.hid hv
  have h0 : 0 < g.length := by have := hok.i1; omega
  have hgR : g.length ≤ R := by have := hok.i2; omega
  have hR128 : R ≤ 128 := by have := hok.r1; omega
  clear hc ho hg hv hok hle hr hm hb
  have hB := Below.refl w.heap.size w
  obtain ⟨gb, go, u0, rfl, hu0, hr0⟩ := HV.out 0 h0
  obtain ⟨a0, x0, rfl, -⟩ := hr0
  rw [Nat.add_zero, show (g[0]'h0) = g.getD 0 [] by simp [h0], HM.out] at hu0
  have HU0 := Lib.hid hu0
  have zgb : gb < w.heap.size := cell_lt hu0
  have hgp : (0 : Int) < (g.length : Int) := by omega
  have hmk := mkRegsQ R (by omega)
  have HSL := Lib.hid (startG_len (n := m) hgR)
  clear hu0
  go_enter Tryz.func16, Tryz.ntmps16
  go_wp2
  refine wp_name fun w1 hW1 => ?_
  have hw0 := Below.refl w.heap.size w
  have hB1 : Below w.heap.size w w1 := by rw [hW1]; repeat (first | exact Below.refl _ _ | exact hw0 | refine Below.drew ?_ | refine below_drewN ?_ _ | refine bset ?_ (by simp <;> omega) _ | refine bal ?_ _)
  have p1 : w1.cell? ⟨w.heap.size, 1, none⟩ = some (.int .i64 (R : Int)) := by rw [hW1]; simp [go_sem]
  have p2 : w1.cell? ⟨w.heap.size, 2, none⟩ = some (.slice ca code.length cc) := by rw [hW1]; simp [go_sem]
  have p3 : w1.cell? ⟨w.heap.size, 3, none⟩ = some (.slice oa outs.length oc) := by rw [hW1]; simp [go_sem]
  have HRQ1 : Hid (RegsQ w1 (w.heap.size + 1) (upG (startG g R m) 0)) := Lib.hid (by
    have := regsQ_new (w.alloc (.cells #[.int .i64 ins, .int .i64 (R : Int), .slice ca code.length cc, .slice oa outs.length oc] 25)) (startG g R m)
    rw [HSL.out] at this
    rw [hW1]
    simpa using this)
  obtain ⟨rb, hrb⟩ : ∃ rb, rb = w.heap.size + 1 := ⟨_, rfl⟩
  rw [← hrb] at HRQ1 ⊢
  have hne : ¬ w.heap.size = rb := by omega
  have hneg : ¬ gb = rb := by omega
  have HP := Lib.hid (show ∀ W, Out (fun k => k = rb) w1 W → W.cell? ⟨w.heap.size, 1, none⟩ = some (.int .i64 (R : Int)) ∧ W.cell? ⟨w.heap.size, 2, none⟩ = some (.slice ca code.length cc) ∧ W.cell? ⟨w.heap.size, 3, none⟩ = some (.slice oa outs.length oc) from fun W h => ⟨okeep h p1 hne, okeep h p2 hne, okeep h p3 hne⟩)
  have hrbz : w.heap.size ≤ rb := by omega
  have HB1 := Lib.hid hB1
  clear hW1 hmk p1 p2 p3 hrb hw0 hB
  go_loopw [8] (fun x wr => ∃ k : Nat, k ≤ R ∧ x = .int .i64 k ∧ Out (fun q => q = rb) w1 wr ∧ Hid (RegsQ wr rb (upG (startG g R m) k))) (fun x _ => R - (intOf x).toNat)
  case atStart => exact ⟨0, Nat.zero_le _, rfl, Out.refl _ _, HRQ1⟩
  case round =>
    obtain ⟨k, hk, rfl, hO, hRQ⟩ := hrel
    obtain ⟨p1, p2, p3⟩ := HP.out wr hO
    have zp := cell_lt p1
    have hBr : Below w.heap.size w wr := HB1.out.trans (hO.to_below (fun q hq _ e => by omega) HB1.out.size)
    by_cases hlt : k < R
    · have hltI : (k : Int) < (R : Int) := by omega
      have hu0 := bkeep hBr HU0.out
      have zu0 := cell_lt hu0
      have zc := fun W => rzero_c m W (by omega)
      have HSET := Lib.hid (upG_set (S := startG g R m) (k := k) (by rw [HSL.out]; exact hlt))
      have hw := Below.refl wr.heap.size wr
      go_wp2_with fail
      refine (zc _).mono ?_
      rintro e w5 ⟨⟨a5, c5, rfl, h5⟩, hb5⟩
      have hb5' : Below wr.heap.size wr w5 := bthen (by repeat (first | exact Below.refl _ _ | exact hw | refine Below.drew ?_ | refine below_drewN ?_ _ | refine bset ?_ (by simp <;> omega) _ | refine bal ?_ _)) hb5
      have hR5 := hRQ.out.keep hb5'
      have hkl : k < (upG (startG g R m) k).length := by rw [upG_len (by rw [HSL.out]; omega), HSL.out]; exact hlt
      obtain ⟨uo, o0, -⟩ := hR5.cell k hkl
      have of0 := hR5.free.2 k
      have zo := cell_lt o0
      have HR6 := Lib.hid (hR5.step (h5.row.rebase (Nat.zero_le _)) hkl)
      have hO5 := hO.below hb5'
      clear hR5 zc h5 hu0
      go_upto_region 6 with (fail)
      refine wp_name fun w6 hW6 => ?_
      have HR6' : Hid (RegsQ w6 rb ((upG (startG g R m) k).set k (List.replicate m 0))) := Lib.hid (by rw [hW6]; exact HR6.out)
      have hO6 : Out (fun q => q = rb) w1 w6 := by rw [hW6]; exact hO5.set (fun _ => rfl) _
      clear hW6 HR6 o0 of0 hO5
      have hB6 : Below w.heap.size w w6 := HB1.out.trans (hO6.to_below (fun q hq _ e => by omega) HB1.out.size)
      by_cases hkg : k < g.length
      · have hkgI : (k : Int) < (g.length : Int) := by omega
        obtain ⟨gb', go', u, he, hu, hrow⟩ := HV.out k hkg
        cases he
        rw [show (g[k]'hkg) = g.getD k [] by simp [hkg]] at hrow
        have hu6 := bkeep hB6 hu
        obtain ⟨uo2, o2, -⟩ := HR6'.out.cell k (by rw [List.length_set]; exact hkl)
        have of2 := HR6'.out.free.2 k
        have zo2 := cell_lt o2
        have HR7 := Lib.hid (show RegsQ (w6.setCell ⟨rb, k, none⟩ u) rb (upG (startG g R m) (k + 1)) by
          have h7 := HR6'.out.step (hrow.keep lims_ref hB6) (by rw [List.length_set]; exact hkl)
          rwa [List.set_set, show g.getD k [] = (startG g R m).getD k [] from (startG_lo hkg).symm, HSET.out] at h7)
        have hO7 : Out (fun q => q = rb) w1 (w6.setCell ⟨rb, k, none⟩ u) := hO6.set (fun _ => rfl) _
        obtain ⟨ra, rn, rcc, rfl⟩ : ∃ a n c, u = Value.slice a n c := by obtain ⟨a, c, h, _⟩ := hrow; exact ⟨a, _, c, h⟩
        clear hu hrow HSET
        go_wp2
        exact ⟨⟨k + 1, by omega, by go_num, hO7, HR7⟩, by simp [intOf]; omega⟩
      · have hkgI : ¬ (k : Int) < (g.length : Int) := by omega
        have HR7 := Lib.hid (show RegsQ w6 rb (upG (startG g R m) (k + 1)) by
          have h7 := HR6'.out
          rwa [show List.replicate m 0 = (startG g R m).getD k [] from (startG_hi (by omega) hlt).symm, HSET.out] at h7)
        clear HSET
        go_wp2
        exact ⟨⟨k + 1, by omega, by go_num, hO6, HR7⟩, by simp [intOf]; omega⟩
    · obtain rfl : k = R := by omega
      have HRR := Lib.hid (show RegsQ wr rb (startG g k m) by
        have := hRQ.out
        have e := upG_all (startG g k m)
        rw [HSL.out] at e
        rw [e] at this
        exact this)
      have hzr : rb < wr.heap.size := HRR.out.free.1
      have HOX := Lib.hid hO
      have HSR := Lib.hid (startG_rect (regs := k) HRE.out)
      have HSB := Lib.hid (startG_bd (regs := k) (n := m) HBD.out)
      have HBX := Lib.hid hBr
      have hbase : w.heap.size ≤ wr.heap.size := hBr.size
      obtain ⟨G, hG⟩ : ∃ G, startG g k m = G := ⟨_, rfl⟩
      rw [hG] at HSL HRR HSR HSB
      have HGG := Lib.hid hG
      obtain ⟨w2, hw2⟩ : ∃ w2, wr = w2 := ⟨_, rfl⟩
      rw [hw2] at HRR hzr HOX HBX hbase p1 p2 p3 zp ⊢
      clear hw2 hG hO hBr hRQ
      go_wp2
      go_loopw [9, 10] (fun v x wq => ∃ n : Nat, n ≤ code.length ∧ x = .int .i64 n ∧ Out (fun q => q = rb) w2 wq ∧ Hid (OwnLB 31 (RRow 0) w2.heap.size wq v (told code G n)) ∧ Hid (∃ h, after code G n = some h ∧ RegsQ wq rb h)) (fun _ x _ => code.length - (intOf x).toNat)
      case atStart => exact ⟨0, Nat.zero_le _, rfl, Out.refl _ _, Lib.hid (OwnLB.nil _ _ _ _), Lib.hid ⟨G, rfl, HRR.out⟩⟩
      case round =>
        rename World => wq
        obtain ⟨n, hn, rfl, hO, hT, hrel⟩ := hrel
        obtain ⟨h, hs, hI⟩ := hrel.out
        have hOX := HOX.out.trans hO
        obtain ⟨p1, p2, p3⟩ := HP.out wq hOX
        have zp := cell_lt p2
        have hBq : Below w.heap.size w wq := HB1.out.trans (hOX.to_below (fun q hq _ e => by omega) HB1.out.size)
        have HS := Lib.hid (And.intro hs hI)
        have hsl := (after_len hs).trans HSL.out
        have HRC := Lib.hid (after_rect HSR.out HSL.out (fun n hn => by have := (ins_of HOK.out hn).a1; have := (ins_of HOK.out hn).a0; rw [Int.toNat_natCast] at *; omega) hn hs)
        have HBN := Lib.hid (after_bd HSB.out (cs_of HOK.out) hn hs)
        have HHL := Lib.hid hsl
        have hsz2 : w2.heap.size ≤ wq.heap.size := hO.size
        obtain ⟨ta, tc, htv⟩ := hT.out.ex
        rw [told_len] at htv
        subst htv
        clear hs hI hrel hsl
        have hcl := HOK.out.c1
        by_cases hlt : n < code.length
        · have hltI : (n : Int) < (code.length : Int) := by omega
          rcases HC.out.1 with h00 | ⟨cb, co, rfl, hcap, hcell⟩
          · rw [h00] at hlt; simp at hlt
          obtain ⟨q0, q1, q2, q3, q4⟩ := hcell n hlt
          have zcb := cell_lt q0
          have hcb : ¬ cb = rb := by omega
          have HQ1 := Lib.hid q1
          replace q0 := bkeep hBq q0
          replace q1 := bkeep hBq q1
          replace q2 := bkeep hBq q2
          replace q3 := bkeep hBq q3
          replace q4 := bkeep hBq q4
          have zq := cell_lt q0
          have hio := ins_of HOK.out hlt
          rw [Int.toNat_natCast] at hio
          have dc := fun W (q : Below wq.heap.size wq W) => rdo_c (code.getD n default) (K + 65 * n) rb k m h W (HS.out.2.keep q) (by rw [HHL.out]; exact hio) HRC.out (by omega) HBN.out (by omega) (by rw [HHL.out]; exact hR128)
          rw [HHL.out] at dc
          have HNX := Lib.hid (fun (h : Grid) (e : after code G n = some h) => (show after code G (n + 1) = (stepR (code.getD n default) (h.getD (code.getD n default).a.toNat []) (h.getD (code.getD n default).b.toNat [])).map fun r => h.set (code.getD n default).to.toNat r by rw [after, e]; rfl))
          have t0 := hio.t0
          have t1 := hio.t1
          obtain ⟨Z, hZ⟩ : ∃ Z, stepR (code.getD n default) (h.getD (code.getD n default).a.toNat []) (h.getD (code.getD n default).b.toNat []) = Z := ⟨_, rfl⟩
          rw [hZ] at dc
          have HZ := Lib.hid hZ
          have HTO := Lib.hid (fun (r : List Int) (e : Z = some r) => toldR_eq HS.out.1 (HZ.out.trans e))
          obtain ⟨i, hi⟩ : ∃ i, i = code.getD n default := ⟨_, rfl⟩
          rw [← hi] at q0 q1 q2 q3 q4 dc t0 t1 HQ1
          have HIN := Lib.hid hi
          clear hi hcell hio hZ
          obtain ⟨op, it, ia, ib, ic⟩ := i
          dsimp only at q0 q1 q2 q3 q4 t0 t1 HQ1
          obtain ⟨nt, rfl⟩ : ∃ x : Nat, it = x := ⟨it.toNat, by omega⟩
          have t1' : nt < k := by omega
          unfold Ins.v at dc
          dsimp only at dc
          unfold AnsQ at dc
          have hw := Below.refl wq.heap.size wq
          cases Z with
          | none =>
            dsimp only at dc
            go_wp2_with fail
            refine (dc _ (by repeat (first | exact Below.refl _ _ | exact hw | refine Below.drew ?_ | refine below_drewN ?_ _ | refine bset ?_ (by simp <;> omega) _ | refine bal ?_ _))).mono ?_
            rintro e w5 ⟨rfl, hb5⟩
            have hB5 : Below wq.heap.size wq w5 := bthen (by repeat (first | exact Below.refl _ _ | exact hw | refine Below.drew ?_ | refine below_drewN ?_ _ | refine bset ?_ (by simp <;> omega) _ | refine bal ?_ _)) hb5
            have HT5 := Lib.hid ((hT.out.keep (prs_row lims_ref _ _) hB5).ownL (bthen hBq hB5) hbase)
            have HFA := Lib.hid (show after code G (n + 1) = none by rw [HNX.out h HS.out.1, HZ.out]; rfl)
            clear dc
            go_wp2
            go_ret3
            have e := HGG.out
            subst e
            exact ⟨.inl ⟨n, h, _, hlt, HS.out.1, HFA.out, rfl, HT5.out⟩, bthen hBq hB5⟩
          | some z =>
            dsimp only at dc
            go_wp2_with fail
            refine (dc _ (by repeat (first | exact Below.refl _ _ | exact hw | refine Below.drew ?_ | refine below_drewN ?_ _ | refine bset ?_ (by simp <;> omega) _ | refine bal ?_ _))).mono ?_
            rintro e w5 ⟨⟨v5, rfl, hi5⟩, hb5⟩
            have hB5 : Below wq.heap.size wq w5 := bthen (by repeat (first | exact Below.refl _ _ | exact hw | refine Below.drew ?_ | refine below_drewN ?_ _ | refine bset ?_ (by simp <;> omega) _ | refine bal ?_ _)) hb5
            have hBw5 := bthen hBq hB5
            have HV5 := Lib.hid hi5
            obtain ⟨a5, n5, c5, rfl⟩ : ∃ a n c, v5 = Value.slice a n c := by obtain ⟨a, c, h, _⟩ := hi5; exact ⟨a, _, c, h⟩
            have hT5 := hT.out.keep (prs_row lims_ref _ _) hB5
            have hR5 := HS.out.2.keep hB5
            have hnt : nt < h.length := by rw [HHL.out]; exact t1'
            have q15 := bkeep hBw5 HQ1.out
            have zq15 := cell_lt q15
            have p25 := bkeep hB5 p2
            have zp25 := cell_lt p25
            obtain ⟨u0, o0, -⟩ := hR5.cell nt hnt
            have of0 := hR5.free.2 nt
            have zo := cell_lt o0
            have hN : Hid (∀ W, W = w5.setCell ⟨rb, nt, none⟩ (.slice a5 n5 c5) → RegsQ W rb (h.set nt z) ∧ RRow 0 W (.slice a5 n5 c5) z ∧ Out (fun q => q = rb) w2 W ∧ OwnLB 31 (RRow 0) w2.heap.size W (.slice ta n tc) (told code G n)) := Lib.hid fun W hW => by
              subst hW
              have hk : Kp (· ≠ 31) w5 (w5.setCell ⟨rb, nt, none⟩ (.slice a5 n5 c5)) := (Kp.refl _ w5).set (fun t ht => by rw [hR5.ty] at ht; cases ht; exact fun k => k rfl) _
              exact ⟨hR5.step HV5.out hnt, HV5.out.kp lims_ref hk (by decide) (by decide), (hO.below hB5).set (fun _ => rfl) _, hT5.set (prs_row lims_ref _ _) hR5.ty (by decide) hzr _⟩
            have HST := Lib.hid (show after code G (n + 1) = some (h.set nt z) by rw [HNX.out h HS.out.1, HZ.out, ← HIN.out, Option.map_some]; dsimp only; rw [Int.toNat_natCast])
            have HTL := Lib.hid (show told code G n ++ [z] = told code G (n + 1) by rw [told_succ, HTO.out z rfl])
            clear dc hi5 hT5 hR5
            go_upto_region 16 with (fail)
            refine wp_name fun w6 hW6 => ?_
            have HN6 := Lib.hid (hN.out w6 hW6)
            have hz6 : w2.heap.size ≤ w6.heap.size := HN6.out.2.2.1.size
            clear hW6 hN o0 of0 q0 q1 q2 q3 q4 q15 p25 p1 p2 p3
            go_wp2_with (at_builtin; refine appLB elRws (prs_row lims_ref _ _) (by decide) (by rfl) (by rfl) (HN6.out.2.2.2.keep (prs_row lims_ref _ _) (bal (Below.refl _ _) _)) (Nat.le_trans hz6 (by simp)) (HN6.out.2.1.keep lims_ref (bal (Below.refl _ _) _)) (by rfl) (by rfl) (cell_new rfl rfl) (by rw [told_len]; omega) (by rw [told_len]; unfold maxLen; omega) ?_)
            intro v7 w7 hT7 hk7 ho7
            rw [HTL.out] at hT7
            have HT7 := Lib.hid hT7
            have HR7 := Lib.hid (show ∃ h', after code G (n + 1) = some h' ∧ RegsQ w7 rb h' from ⟨_, HST.out, (HN6.out.1.keep (bal (Below.refl _ _) _)).grown hk7 ho7 hzr⟩)
            have hO7 : Out (fun q => q = rb) w2 w7 := ((HN6.out.2.2.1.alloc _).then ho7 fun i h1 h2 => by omega)
            clear hT7 hk7 ho7 HN6
            go_wp2
            exact ⟨⟨n + 1, by omega, by go_num, hO7, HT7, HR7⟩, by simp [intOf]; omega⟩
        · obtain rfl : n = code.length := by omega
          have HTF := Lib.hid hT.out
          have hbw := Below.refl wq.heap.size wq
          have HBQ := Lib.hid hBq
          obtain ⟨w3, hw3⟩ : ∃ w3, wq = w3 := ⟨_, rfl⟩
          rw [hw3] at HTF hbw HBQ HS p1 p2 p3 zp ⊢
          clear hw3 hT hBq hO hOX
          have HP3 := Lib.hid (And.intro p2 p3)
          go_wp2
          go_loopw [13, 14] (fun u x wz => ∃ q : Nat, q ≤ outs.length ∧ x = .int .i64 q ∧ Hid (OwnL 31 (RRow 0) w3 wz u (outsG (outs.take q) h))) (fun _ x _ => outs.length - (intOf x).toNat)
          case atStart => exact ⟨0, Nat.zero_le _, rfl, Lib.hid (OwnL.nil _ _ hbw)⟩
          case round =>
            rename World => wz
            obtain ⟨q, hq, rfl, hO⟩ := hrel
            have hbz := hO.out.bel
            have hBz := bthen HBQ.out hbz
            have hol := HOK.out.o2
            have hlen : (outsG (outs.take q) h).length = q := by simp [outsG]; omega
            obtain ⟨va, vc, hv⟩ := hO.out.ex
            rw [hlen] at hv
            subst hv
            have HLEN := Lib.hid hlen
            have p3 := bkeep hbz HP3.out.2
            have zp3 := cell_lt p3
            clear hlen
            by_cases hlt3 : q < outs.length
            · have hltI : (q : Int) < (outs.length : Int) := by omega
              obtain ⟨q1, q2⟩ := HOK.out.os q hlt3
              rcases HC.out.2 with h00 | ⟨ob, off, rfl, hcap, hcell⟩
              · rw [h00] at hlt3; simp at hlt3
              have hc := bkeep hBz (hcell q hlt3)
              have zob := cell_lt hc
              obtain ⟨r, hr⟩ : ∃ r : Nat, outs.getD q 0 = r := ⟨(outs.getD q 0).toNat, by omega⟩
              rw [hr] at hc q1 q2
              have hrl : r < k := by omega
              have hrl2 : r < h.length := by rw [HHL.out]; exact hrl
              obtain ⟨u, hu, hrow⟩ := HS.out.2.cell r hrl2
              have hu2 := bkeep hbz hu
              have zu := cell_lt hu2
              have HROW := Lib.hid (hrow.keep lims_ref hbz)
              have HN := Lib.hid (show outsG (outs.take (q + 1)) h = outsG (outs.take q) h ++ [h.getD r []] by
                rw [List.take_succ_eq_append_getElem hlt3]
                have e : outs[q] = r := by rw [← hr]; simp [hlt3]
                unfold outsG; rw [List.map_append, List.map_singleton, e, Int.toNat_natCast])
              obtain ⟨ua, un, uc, rfl⟩ : ∃ a n c, u = Value.slice a n c := by obtain ⟨a, c, h, _⟩ := hrow; exact ⟨a, _, c, h⟩
              obtain ⟨L, hL⟩ : ∃ L, h.getD r [] = L := ⟨_, rfl⟩
              rw [hL] at HROW HN
              clear hr hcell hu hL hrow
              go_wp2_with (at_builtin; refine appL elRws (prs_row lims_ref _ _) (by decide) (by rfl) (by rfl) (hO.out.below (prs_row lims_ref _ _) (bal (Below.refl _ _) _)) (HROW.out.keep lims_ref (bal (Below.refl _ _) _)) (by rfl) (by rfl) (cell_new rfl rfl) (by rw [HLEN.out]; omega) (by rw [HLEN.out]; unfold maxLen; omega) ?_)
              intro v' w8 hO8 hk8
              rw [← HN.out] at hO8
              have HO8 := Lib.hid hO8
              clear hO8 hk8
              go_wp2
              exact ⟨⟨q + 1, by omega, by go_num, HO8⟩, by simp [intOf]; omega⟩
            · obtain rfl : q = outs.length := by omega
              rw [List.take_length] at hO
              have HT9 := Lib.hid ((HTF.out.keep (prs_row lims_ref _ _) hbz).ownL hBz hbase)
              have HO9 := Lib.hid (hO.out.rebase HBQ.out)
              go_wp2
              go_ret3
              have e := HGG.out
              subst e
              exact ⟨.inr ⟨h, _, _, HS.out.1, rfl, HT9.out, HO9.out⟩, hBz⟩
end Go.Proofs.YtannhpadoooedaaGreatDoor

/- The reference's rows: Widest. -/
namespace Go.Proofs.YtannhpadoooedaaGreatDoor
open Num
open Go.ChangeShapes Go.WideShapes Go.ChangeAt Go.RowKit
set_option linter.unusedVariables false
set_option linter.unusedSimpArgs false
attribute [local go_sem ↓] Go.wp_at_zero Go.wp_at_succ
set_option maxRecDepth 100000 in
set_option maxHeartbeats 8000000 in
theorem rrowWidest_c (v : Value) (l : List Int) (w : World) (hv : RRow 0 w v l) (hl : l.length ≤ 1099511627775) :
    Calls Tryz.prog 92 #[v] w fun e w' => (∃ u, e = .returned u ∧ IsRef w' u (widL l)) ∧ Below w.heap.size w w' := by
  have HV := Lib.hid hv
  obtain ⟨va, vc, rfl, -⟩ := hv
  have hB := Below.refl w.heap.size w
  go_enter Tryz.func92, Tryz.ntmps92
  go_wp2
  refine wp_name fun w0 hW0 => ?_
  have r0f : w0.frozen? ⟨w.heap.size, 0, none⟩ = false := by rw [hW0]; simp [go_sem, *]
  have r0 : w0.cell? ⟨w.heap.size, 0, none⟩ = some (.bool false) := by rw [hW0]; exact (by first | assumption | exact cell_new (by with_reducible first | rfl | (simp; done) | (simp; omega)) rfl | (repeat (first | assumption | exact cell_new (by with_reducible first | rfl | (simp; done) | (simp; omega)) rfl | refine cell_alloc ?_ _ | refine cell_drew ?_ | refine cell_drewN ?_ _ | refine cell_far ?_ (by simp) _ | (refine cell_far ?_ (by simp <;> omega) _))) | simp [go_sem, *])
  have zr0 := cell_lt r0
  have r1f : w0.frozen? ⟨w.heap.size, 1, none⟩ = false := by rw [hW0]; simp [go_sem, *]
  have r1 : w0.cell? ⟨w.heap.size, 1, none⟩ = some (.slice none 0 0) := by rw [hW0]; exact (by first | assumption | exact cell_new (by with_reducible first | rfl | (simp; done) | (simp; omega)) rfl | (repeat (first | assumption | exact cell_new (by with_reducible first | rfl | (simp; done) | (simp; omega)) rfl | refine cell_alloc ?_ _ | refine cell_drew ?_ | refine cell_drewN ?_ _ | refine cell_far ?_ (by simp) _ | (refine cell_far ?_ (by simp <;> omega) _))) | simp [go_sem, *])
  have m0f : w0.frozen? ⟨w.heap.size + 1, 0, none⟩ = false := by rw [hW0]; simp [go_sem, *]
  have m0 : w0.cell? ⟨w.heap.size + 1, 0, none⟩ = some (.bool false) := by rw [hW0]; exact (by first | assumption | exact cell_new (by with_reducible first | rfl | (simp; done) | (simp; omega)) rfl | (repeat (first | assumption | exact cell_new (by with_reducible first | rfl | (simp; done) | (simp; omega)) rfl | refine cell_alloc ?_ _ | refine cell_drew ?_ | refine cell_drewN ?_ _ | refine cell_far ?_ (by simp) _ | (refine cell_far ?_ (by simp <;> omega) _))) | simp [go_sem, *])
  have zm0 := cell_lt m0
  have m1f : w0.frozen? ⟨w.heap.size + 1, 1, none⟩ = false := by rw [hW0]; simp [go_sem, *]
  have m1 : w0.cell? ⟨w.heap.size + 1, 1, none⟩ = some (.slice none 0 0) := by rw [hW0]; exact (by first | assumption | exact cell_new (by with_reducible first | rfl | (simp; done) | (simp; omega)) rfl | (repeat (first | assumption | exact cell_new (by with_reducible first | rfl | (simp; done) | (simp; omega)) rfl | refine cell_alloc ?_ _ | refine cell_drew ?_ | refine cell_drewN ?_ _ | refine cell_far ?_ (by simp) _ | (refine cell_far ?_ (by simp <;> omega) _))) | simp [go_sem, *])
  have hB : Below w.heap.size w w0 := by rw [hW0]; repeat (first | exact Below.refl _ _ | exact hB | refine Below.drew ?_ | refine below_drewN ?_ _ | refine bset ?_ (by simp <;> omega) _ | refine bal ?_ _)
  have hz : w.heap.size ≤ w0.heap.size := hB.size
  clear hW0
  have HR0 := Lib.hid (And.intro r0 (And.intro r1 (And.intro r0f r1f)))
  have HM0 := Lib.hid (And.intro m0 (And.intro m1 (And.intro m0f m1f)))
  clear r0 r1 r0f r1f m0 m1 m0f m1f
  go_loopw [4] (fun x wr => ∃ j : Nat, j ≤ l.length ∧ x = .int .i64 j ∧ Below w.heap.size w wr ∧ Hid (wr.cell? ⟨w.heap.size, 0, none⟩ = some (.bool false) ∧ wr.cell? ⟨w.heap.size, 1, none⟩ = some (.slice none 0 0) ∧ wr.frozen? ⟨w.heap.size, 0, none⟩ = false ∧ wr.frozen? ⟨w.heap.size, 1, none⟩ = false) ∧ Hid (∃ n a ln c, wr.cell? ⟨w.heap.size + 1, 0, none⟩ = some (.bool n) ∧ wr.cell? ⟨w.heap.size + 1, 1, none⟩ = some (.slice a ln c) ∧ wr.frozen? ⟨w.heap.size + 1, 0, none⟩ = false ∧ wr.frozen? ⟨w.heap.size + 1, 1, none⟩ = false ∧ IsRef wr (.agg #[.bool n, .slice a ln c]) (widL (l.take j)))) (fun x _ => l.length - (intOf x).toNat)
  case atStart => exact ⟨0, Nat.zero_le _, rfl, hB, HR0, Lib.hid ⟨_, _, _, _, HM0.out.1, HM0.out.2.1, HM0.out.2.2.1, HM0.out.2.2.2, isRef_zero _⟩⟩
  case round =>
    obtain ⟨j, hj, rfl, hBr, HR, hM⟩ := hrel
    obtain ⟨n0, a0, ln0, c0, m0, m1, m0f, m1f, hi0⟩ := hM.out
    obtain ⟨r0, r1, r0f, r1f⟩ := HR.out
    have HI0 := Lib.hid hi0
    have zm := cell_lt m0
    have zr := cell_lt r0
    clear hi0 HR hM
    by_cases hlt : j < l.length
    · have hltI : (j : Int) < (l.length : Int) := by omega
      obtain ⟨a', c', he, -, vr⟩ := (HV.out.keep lims_ref hBr).view
      obtain ⟨rfl, -, rfl⟩ := Value.slice.inj he
      obtain ⟨b, off, n2, a2, l2, cc2, rfl, d0, d1, hi⟩ := vr j hlt
      have HW := Lib.hid (widL_take hlt)
      obtain ⟨x, hx⟩ : ∃ x, l.getD j 0 = x := ⟨_, rfl⟩
      rw [hx] at hi HW
      obtain ⟨m, hm⟩ : ∃ m, widL (l.take j) = m := ⟨_, rfl⟩
      rw [hm] at HI0 HW
      have zd := cell_lt d0
      have ac := fun W (h : Below wr.heap.size wr W) => rabs_c _ x W (hi.keep h)
      have cc := fun u W (h : Below wr.heap.size wr W) (hu : IsRef W u (x.natAbs : Int)) => rcmp_c u _ (x.natAbs : Int) m W hu (HI0.out.keep h)
      have HC := Lib.hid (cmpI_gtr (x.natAbs : Int) m)
      obtain ⟨c, hc⟩ : ∃ c, cmpI (x.natAbs : Int) m = c := ⟨_, rfl⟩
      rw [hc] at HC cc
      have HS := Lib.hid (show ∀ W, Below wr.heap.size wr W → W.cell? ⟨b, off + j * 2, none⟩ = some (.bool n2) ∧ W.cell? ⟨b, off + j * 2 + 1, none⟩ = some (.slice a2 l2 cc2) ∧ W.cell? ⟨w.heap.size + 1, 0, none⟩ = some (.bool n0) ∧ W.cell? ⟨w.heap.size + 1, 1, none⟩ = some (.slice a0 ln0 c0) from fun W h => ⟨bkeep h d0, bkeep h d1, bkeep h m0, bkeep h m1⟩)
      clear hx hm he vr hi hc
      have hBw := Below.refl wr.heap.size wr
      go_wp2
      go_region_held3 (fun w' => w'.cell? ⟨b, off + j * 2, none⟩ = some (.bool n2) ∧ w'.cell? ⟨b, off + j * 2 + 1, none⟩ = some (.slice a2 l2 cc2) ∧ w'.cell? ⟨w.heap.size + 1, 0, none⟩ = some (.bool n0) ∧ w'.cell? ⟨w.heap.size + 1, 1, none⟩ = some (.slice a0 ln0 c0))
        (first | (refine HS.out _ ?_; (repeat (first | exact Below.refl _ _ | exact hBw | refine Below.drew ?_ | refine below_drewN ?_ _ | refine bset ?_ (by simp <;> omega) _ | refine bal ?_ _)); done) | fail)
        (first
          | (go_at_call 144; refine (ac _ ?_).mono ?_; (repeat (first | exact Below.refl _ _ | exact hBw | refine Below.drew ?_ | refine below_drewN ?_ _ | refine bset ?_ (by simp <;> omega) _ | refine bal ?_ _)); rintro e w5 ⟨⟨v5, rfl, hv5⟩, hb5⟩; (have hBd : Below wr.heap.size wr w5 := bthen (by repeat (first | exact Below.refl _ _ | exact hBw | refine Below.drew ?_ | refine below_drewN ?_ _ | refine bset ?_ (by simp <;> omega) _ | refine bal ?_ _)) hb5; clear hBw; have hBw := hBd; clear hBd); have HV5 := Lib.hid hv5; obtain ⟨n5, a5, c5, l5, rfl, -⟩ := hv5; unfold iv at *)
          | (go_at_call 93; refine (cc _ _ ?_ ?_).mono ?_; (repeat (first | exact Below.refl _ _ | exact hBw | refine Below.drew ?_ | refine below_drewN ?_ _ | refine bset ?_ (by simp <;> omega) _ | refine bal ?_ _)); (refine HV5.out.keep ?_; have hBz := Below.refl w5.heap.size w5; (repeat (first | exact Below.refl _ _ | exact hBz | refine Below.drew ?_ | refine below_drewN ?_ _ | refine bset ?_ (by simp <;> omega) _ | refine bal ?_ _))); rintro e w6 ⟨rfl, hb6⟩; have hB6 : Below wr.heap.size wr w6 := bthen (by repeat (first | exact Below.refl _ _ | exact hBw | refine Below.drew ?_ | refine below_drewN ?_ _ | refine bset ?_ (by simp <;> omega) _ | refine bal ?_ _)) hb6; (clear hBw; have hBw := hB6))
          | fail)
      all_goals
        have hB3 : Below w.heap.size w w6 := bthen hBr hB6
        replace r0f := bkeepf hB6 r0 r0f
        replace r1f := bkeepf hB6 r1 r1f
        replace m0f := bkeepf hB6 m0 m0f
        replace m1f := bkeepf hB6 m1 m1f
        replace r0 := bkeep hB6 r0
        replace r1 := bkeep hB6 r1
        replace m0 := bkeep hB6 m0
        replace m1 := bkeep hB6 m1
        replace d0 := bkeep hB6 d0
        replace d1 := bkeep hB6 d1
        have zm6 := cell_lt m0
        have zd6 := cell_lt d0
        have HI6 := Lib.hid (HI0.out.keep hB6)
        by_cases hcp : 0 < c
        · have hcd : decide (0 < c) = true := by simpa using hcp
          rw [widS, if_pos (HC.out.1 hcp)] at HW
          have hBz := Below.refl w6.heap.size w6
          go_wp2_with fail
          refine (ac _ (bthen hB6 (by repeat (first | exact Below.refl _ _ | exact hBz | refine Below.drew ?_ | refine below_drewN ?_ _ | refine bset ?_ (by simp <;> omega) _ | refine bal ?_ _)))).mono ?_
          rintro e w7 ⟨⟨v7, rfl, hv7⟩, hb7⟩
          have hB7 : Below w6.heap.size w6 w7 := bthen (by repeat (first | exact Below.refl _ _ | exact hBz | refine Below.drew ?_ | refine below_drewN ?_ _ | refine bset ?_ (by simp <;> omega) _ | refine bal ?_ _)) hb7
          replace r0f := bkeepf hB7 r0 r0f
          replace r1f := bkeepf hB7 r1 r1f
          replace m0f := bkeepf hB7 m0 m0f
          replace m1f := bkeepf hB7 m1 m1f
          replace r0 := bkeep hB7 r0
          replace r1 := bkeep hB7 r1
          replace m0 := bkeep hB7 m0
          replace m1 := bkeep hB7 m1
          have HV7 := Lib.hid hv7
          obtain ⟨n7, a7, c7, l7, rfl, -⟩ := hv7
          unfold iv at *
          have hB3' := bthen hB3 hB7
          clear ac cc HS hb7
          go_wp2
          refine ⟨⟨j + 1, by omega, by go_num, bset (bset hB3' (by show w.heap.size ≤ w.heap.size + 1; omega) _) (by show w.heap.size ≤ w.heap.size + 1; omega) _, Lib.hid ⟨cell_far (cell_far r0 (addr_ne (by omega)) _) (addr_ne (by omega)) _, cell_far (cell_far r1 (addr_ne (by omega)) _) (addr_ne (by omega)) _, ?_, ?_⟩, Lib.hid ⟨n7, a7, l7.length, c7, ?_, ?_, ?_, ?_, ?_⟩⟩, by simp [intOf]; omega⟩
          · rw [World.frozen?_setCell, World.frozen?_setCell]; exact r0f
          · rw [World.frozen?_setCell, World.frozen?_setCell]; exact r1f
          · exact cell_far (cell_here m0 _) (by simp) _
          · exact cell_here (cell_far m1 (by simp) _) _
          · rw [World.frozen?_setCell, World.frozen?_setCell]; exact m0f
          · rw [World.frozen?_setCell, World.frozen?_setCell]; exact m1f
          · rw [HW.out]; exact HV7.out.put2 m0 m1 _ _
        · have hcd : decide (0 < c) = false := by simpa using hcp
          rw [widS, if_neg (fun h => hcp (HC.out.2 h))] at HW
          clear ac cc HS
          go_wp2
          exact ⟨⟨j + 1, by omega, by go_num, hB3, Lib.hid ⟨r0, r1, r0f, r1f⟩, Lib.hid ⟨_, _, _, _, m0, m1, m0f, m1f, by rw [HW.out]; exact HI6.out⟩⟩, by simp [intOf]; omega⟩
    · obtain rfl : j = l.length := by omega
      rw [List.take_length] at HI0
      have hp := Lib.hid (HI0.out.put2 r0 r1)
      go_wp2
      refine bodyPost_ret (v := .agg #[.bool n0, .slice a0 ln0 c0]) (by simp [results, Tryz.results92, go_sem, *]) rfl ⟨⟨_, rfl, hp.out _ _⟩, ?_⟩
      repeat (first | exact Below.refl _ _ | exact hBr | refine Below.drew ?_ | refine below_drewN ?_ _ | refine bset ?_ (by simp <;> omega) _ | refine bal ?_ _)
end Go.Proofs.YtannhpadoooedaaGreatDoor

/- Ranges over functions whose bodies write blocks of their own: which blocks these are may change from round to round; what the iterator holds never lies in them. -/
namespace Go.Proofs.YtannhpadoooedaaGreatDoor
open Go.ChangeShapes Go.WideShapes Go.ChangeAt Go.RowKit
set_option linter.unusedVariables false
set_option linter.unusedSimpArgs false
/-- blocks below n0, those of S and those of limbs lie as they lay -/
structure Clo (n0 : Nat) (S : Nat → Prop) (a b : World) : Prop where
  os : b.os = a.os
  tape : b.tape = a.tape
  output : b.output = a.output
  size : a.heap.size ≤ b.heap.size
  block : ∀ q, q < a.heap.size → (q < n0 ∨ S q ∨ typOf a q = some 137) → b.heap[q]? = a.heap[q]?
section
variable {n0 : Nat} {S : Nat → Prop} {a b c : World}
theorem Clo.refl (n0 : Nat) (S : Nat → Prop) (a : World) : Clo n0 S a a := ⟨rfl, rfl, rfl, Nat.le_refl _, fun _ _ _ => rfl⟩
theorem Clo.trans (h : Clo n0 S a b) (k : Clo n0 S b c) : Clo n0 S a c :=
  ⟨k.os.trans h.os, k.tape.trans h.tape, k.output.trans h.output, Nat.le_trans h.size k.size, fun q hq hs =>
    (k.block q (Nat.lt_of_lt_of_le hq h.size) (hs.imp id (Or.imp id fun ht => by unfold typOf; rw [h.block q hq hs]; exact ht))).trans (h.block q hq hs)⟩
theorem Clo.of_below (h : Below a.heap.size a b) : Clo n0 S a b := ⟨h.os, h.tape, h.output, h.size, fun q hq _ => h.block q hq⟩
theorem Clo.below (h : Clo n0 S a b) (k : Below b.heap.size b c) : Clo n0 S a c := h.trans (.of_below k)
theorem Clo.of_out {X : Nat → Prop} (h : Out X a b) (hx : ∀ q, X q → q < a.heap.size → n0 ≤ q ∧ ¬ S q ∧ typOf a q ≠ some 137) : Clo n0 S a b :=
  ⟨h.os, h.tape, h.output, h.size, fun q hq hs => h.block q hq fun hX => by
    obtain ⟨h1, h2, h3⟩ := hx q hX hq
    rcases hs with h | h | h
    · omega
    · exact h2 h
    · exact h3 h⟩
theorem Clo.low (h : Clo n0 S a b) (hn : n0 ≤ a.heap.size) : Below n0 a b := ⟨h.os, h.tape, h.output, h.size, fun q hq => h.block q (by omega) (.inl hq)⟩
theorem Clo.lim (h : Clo n0 S a b) : Lim a b := fun q ht => by
  have hq : q < a.heap.size := by
    unfold typOf at ht
    rcases Nat.lt_or_ge q a.heap.size with h1 | h1
    · exact h1
    · rw [Array.getElem?_eq_none h1] at ht; cases ht
  have e := h.block q hq (.inr (.inr ht))
  exact ⟨by unfold typOf; rw [e]; exact ht, fun o n hc => by rw [World.cell?_of_block (w := a) e]; exact hc⟩
theorem Clo.cell (h : Clo n0 S a b) {p : Addr} {v : Value} (hp : p.block < n0 ∨ S p.block) (hc : a.cell? p = some v) : b.cell? p = some v := by
  have hq : p.block < a.heap.size := by
    unfold World.cell? at hc
    rcases Nat.lt_or_ge p.block a.heap.size with h1 | h1
    · exact h1
    · rw [Array.getElem?_eq_none h1] at hc; cases hc
  rw [World.cell?_of_block (w := a) (h.block p.block hq (hp.imp id .inl))]; exact hc
theorem Clo.frz (h : Clo n0 S a b) {p : Addr} {v : Value} (hp : p.block < n0 ∨ S p.block) (hc : a.cell? p = some v) (hf : a.frozen? p = false) : b.frozen? p = false := by
  have hq : p.block < a.heap.size := by
    unfold World.cell? at hc
    rcases Nat.lt_or_ge p.block a.heap.size with h1 | h1
    · exact h1
    · rw [Array.getElem?_eq_none h1] at hc; cases hc
  rw [World.frozen?_of_block (w := a) (h.block p.block hq (hp.imp id .inl))]; exact hf
theorem Clo.typ (h : Clo n0 S a b) {q : Nat} {t : TypeId} (hp : q < n0 ∨ S q) (ht : typOf a q = some t) : typOf b q = some t := by
  have hq : q < a.heap.size := by
    unfold typOf at ht
    rcases Nat.lt_or_ge q a.heap.size with h1 | h1
    · exact h1
    · rw [Array.getElem?_eq_none h1] at ht; cases ht
  unfold typOf; rw [h.block q hq (hp.imp id .inl)]; exact ht
end
theorem typ_none {X : World} {q : Nat} {o : Obj} (h : X.heap[q]? = some o) (hc : o.isCells = false) : typOf X q = none := by
  unfold typOf; rw [h]
  cases o with
  | cells _ _ _ => cases hc
  | _ => rfl
/-- what the body's blocks are: cells, and no limbs -/
def Soil (S : Nat → Prop) (X : World) : Prop := ∀ q, S q → ∃ t, typOf X q = some t ∧ t ≠ 137
/-- the body's blocks behind a round: those that it had, and new ones -/
def Grew (S S' : Nat → Prop) (X : World) : Prop := ∀ q, S' q → S q ∨ X.heap.size ≤ q
theorem Grew.same (S : Nat → Prop) (X : World) : Grew S S X := fun _ h => .inl h
/-- the iterator's promise: it tells m values, each of which is as A says, and lies in the blocks Xs, which it needs no more -/
def IterD (P : Program) (gf : Nat) (lb : Array Value) (A : Nat → Array Value → World → Prop) (m : Nat) (Xs : Array Value → Nat → Prop) (n0 : Nat) (S0 : Nat → Prop) (G : World → Prop) : Prop :=
  ∀ (l : Nat) (J Jx : Nat → (Nat → Prop) → World → Prop) (W : World), G W → (∀ k S X Y, J k S X → Clo n0 S X Y → KeepsOthers X Y → J k S Y) → (∀ k S X Y, Jx k S X → Clo n0 S X Y → KeepsOthers X Y → Jx k S Y) →
    (∀ k S X, J k S X → Soil S X) →
    (∀ k args S X, k < m → J k S X → A k args X → (∀ q, Xs args q → ¬ S q) → YieldAt Fence.wide 7 P l args X fun e Y => (e = .returned (.bool true) ∧ ∃ S', Grew S S' X ∧ J (k + 1) S' Y ∧ OutT (fun q => S q ∨ Xs args q) X Y) ∨ (e = .returned (.bool false) ∧ ∃ S', Jx (k + 1) S' Y)) →
    J 0 S0 W → CallsIn Fence.wide 8 P gf (#[.func (.yield l) #[] #[]] ++ lb) W fun e Y => (∃ v, e = .returned v) ∧ ((∃ S, J m S Y) ∨ ∃ k S, k ≤ m ∧ Jx k S Y)
/-- how a round's body may end -/
def postD (X0 S : Nat → Prop) (I : Nat → (Nat → Prop) → World → Prop) (Ix : Code → Nat → (Nat → Prop) → World → Prop) (k : Nat) (X : World) : Exit → Act → World → Prop
  | .normal, _, Y => OutT X0 X Y ∧ ∃ S', Grew S S' X ∧ I k S' Y
  | .ret, _, Y => OutT X0 X Y ∧ ∃ S', Ix .ret k S' Y
  | .exit id, _, Y => OutT X0 X Y ∧ ∃ S', Ix (.exit id) k S' Y
  | .goto t, _, Y => OutT X0 X Y ∧ ∃ S', Ix (.goto t) k S' Y
  | .panic _, _, _ => False
  | .outgrown, _, _ => False
theorem wp_rangeD {P : Program} {g : Operand} {ps : Array Tmp} {assign body : Code} {Q : Exit → Act → World → Prop} {a : Act} {w : World}
    {gf : Nat} {lb : Array Value} (hg : a.eval g = .func (.func gf) #[] lb) (eg : ∀ args w, (callFunc gf args).run P w = .ok (.enter gf args) w)
    {A : Nat → Array Value → World → Prop} {m n0 : Nat} {Xs : Array Value → Nat → Prop} {S0 : Nat → Prop} {G : World → Prop} (hseq : IterD P gf lb A m Xs n0 S0 G)
    (hn0 : n0 ≤ w.heap.size) (hG : ∀ W, Below w.heap.size w W → G W) (hps : ∀ k args X, A k args X → args.size = ps.size)
    (I : Nat → (Nat → Prop) → World → Prop) (Ix : Code → Nat → (Nat → Prop) → World → Prop) (hI : ∀ k S X Y, I k S X → Clo n0 S X Y → I k S Y) (hIx : ∀ c k S X Y, Ix c k S X → Clo n0 S X Y → Ix c k S Y)
    (hS : ∀ k S X, I k S X → Soil S X) (hSx : ∀ c k S X, Ix c k S X → Soil S X) (h0 : I 0 S0 w)
    (Ax : Array Value → Nat → Array Value → (Nat → Prop) → Act → World → Prop) (hAx : ∀ k args S a' (X : World) (l : Nat) (o o' : Obj), w.heap.size ≤ l → X.heap[l]? = some o → o.isCells = false → Ax a.tmps k args S a' X → Ax a.tmps k args S a' (X.putObj l o'))
    (hXs : ∀ k args X q, A k args X → Xs args q → ∃ o, X.heap[q]? = some o ∧ o.isCells = true)
    (hassign : ∀ (l k : Nat) (args : Array Value) (S : Nat → Prop) (X : World) (K : Act → World → Prop), k < m → I k S X → A k args X → (∀ q, Xs args q → ¬ S q) → (∀ a' Y, Below X.heap.size X Y → I k S Y → Ax a.tmps k args S a' Y → K a' Y) →
      assign.wpIn (Fence.wide.inRound l) 7 P (Exit.then K (fun _ _ _ => False)) { tmps := (ps.zip args).foldl (fun t (p, v) => t.setIfInBounds p v) a.tmps, defers := [] } X)
    (hbody : ∀ (l k : Nat) (args : Array Value) (S : Nat → Prop) (a' : Act) (X : World), k < m → I k S X → Ax a.tmps k args S a' X → body.wpIn (Fence.wide.inRound l) 7 P (postD (fun q => S q ∨ Xs args q) S I Ix (k + 1) X) a' X)
    (hdone : ∀ (D : Nat) (S : Nat → Prop) (Y : World), w.heap.size ≤ D → I m S Y → Y.heap[D]? = some (.deferred (some [])) → Q .normal { a with defers := { target := .collected D, args := #[] } :: a.defers } Y)
    (hstop : ∀ (D : Nat) (c : Code) (k : Nat) (S : Nat → Prop) (Y : World), w.heap.size ≤ D → k ≤ m → Ix c k S Y → Y.heap[D]? = some (.deferred (some [])) → c.wp P Q { a with defers := { target := .collected D, args := #[] } :: a.defers } Y) :
    (Code.rangeFunc g ps assign body).wp P Q a w := by
  refine (wpIn_wide (n := 9)).1 (wpIn_rangeFunc fun fn hfn => ?_)
  let R : LoopState → Option Code → Loop := fun st pe => { state := st, pending := pe, fn, tmps := a.tmps, params := ps, assign, body, defers := w.heap.size }
  generalize hl : w.heap.size + 1 = l
  have hlw : w.heap.size ≤ l := by omega
  let V : World := (w.alloc (.deferred (some []))).alloc (.loop (R .ready none))
  have rec0 : V.heap[l]? = some (.loop (R .ready none)) := by
    have h := World.alloc_heap_new (w.alloc (.deferred (some []))) (.loop (R .ready none))
    rw [World.size_alloc, hl] at h
    exact h
  have put0 : V.heap[w.heap.size]? = some (.deferred (some [])) := (Below.heap_alloc _ _ _ (by simp)).trans (World.alloc_heap_new w _)
  have bV : Below w.heap.size w V := bal (bal (Below.refl _ _) _) _
  -- the loop's record is set: nothing of the body's, no limbs
  have cP : ∀ (S : Nat → Prop) (X : World) (o o' : Obj), Soil S X → X.heap[l]? = some o → o.isCells = false → Clo n0 S X (X.putObj l o') := fun S X o o' hs ho hc => by
    refine ⟨rfl, rfl, rfl, by simp [World.putObj], fun q hq h => World.putObj_heap_other (fun e => ?_)⟩
    subst e
    have ht : ∀ t, typOf X q ≠ some t := fun t h => by rw [typ_none ho hc] at h; cases h
    rcases h with h | h | h
    · omega
    · obtain ⟨t, h1, _⟩ := hs q h
      exact ht t h1
    · exact ht _ h
  refine ⟨l, [{ target := .collected w.heap.size, args := #[] }], V, { target := .fn (.func gf) lb, args := #[.func (.yield l) #[] #[]] }, V, gf, #[.func (.yield l) #[] #[]] ++ lb, V, ?_, ?_, fun f' _ => trivial, ?_, fun _ => by omega, ?_⟩
  · have h := run_enterLoop_outer (P := P) (w := w) fn a.tmps ps assign body
    rw [hl] at h
    exact h
  · simp only [resolve, hg]
    simp [go_sem]
  · simp [invoke, go_sem, eg]
  let J : Nat → (Nat → Prop) → World → Prop := fun k S X => I k S X ∧ X.heap[l]? = some (.loop (R .ready none)) ∧ X.heap[w.heap.size]? = some (.deferred (some []))
  let Jx : Nat → (Nat → Prop) → World → Prop := fun k S X => ∃ c, Ix c k S X ∧ X.heap[l]? = some (.loop (R .done (some c))) ∧ X.heap[w.heap.size]? = some (.deferred (some []))
  refine (hseq l J Jx V (hG V bV) ?_ ?_ ?_ ?_ ⟨hI 0 S0 _ _ h0 (.of_below bV), rec0, put0⟩).mono ?_
  · rintro k S X Y ⟨h1, h2, h3⟩ hc hk
    exact ⟨hI k S X Y h1 hc, hk.same _ _ h2 rfl, hk.same _ _ h3 rfl⟩
  · rintro k S X Y ⟨c, h1, h2, h3⟩ hc hk
    exact ⟨c, hIx c k S X Y h1 hc, hk.same _ _ h2 rfl, hk.same _ _ h3 rfl⟩
  · rintro k S X ⟨h1, _⟩
    exact hS k S X h1
  · -- one round
    rintro k args S X hkm ⟨h1, h2, h3⟩ hA hxs
    have nX : ∀ q o, X.heap[q]? = some o → o.isCells = false → ¬ (S q ∨ Xs args q) := fun q o hq ho hx => by
      rcases hx with hx | hx
      · obtain ⟨t, ht, _⟩ := hS k S X h1 q hx
        rw [typ_none hq ho] at ht; cases ht
      · obtain ⟨o', ho', hc⟩ := hXs k args X q hA hx
        rw [hq] at ho'; cases ho'; rw [ho] at hc; cases hc
    have nl : ¬ (S l ∨ Xs args l) := nX _ _ h2 rfl
    have nd : ¬ (S w.heap.size ∨ Xs args w.heap.size) := nX _ _ h3 rfl
    have hy := run_yield (P := P) (args := args) h2 (hps k args X hA)
    refine ⟨fn, _, assign, body, hy, roundIn_of_wpIn hfn (hassign l k args S X _ hkm h1 hA hxs ?_)⟩
    intro a' X1 hb i1 ax
    have hlX : l < X.heap.size := (Array.getElem?_eq_some_iff.1 h2).1
    have l1 : X1.heap[l]? = some (.loop (R .ready none)) := (hb.block _ hlX).trans h2
    have d1 : X1.heap[w.heap.size]? = some (.deferred (some [])) := (hb.block _ (Array.getElem?_eq_some_iff.1 h3).1).trans h3
    have hl1 : l < X1.heap.size := (Array.getElem?_eq_some_iff.1 l1).1
    refine ⟨_, run_beginRound l1 rfl, ?_⟩
    have cb : Clo n0 S X1 (X1.putObj l (.loop { R .ready none with state := .busy })) := cP _ _ _ _ (hS _ _ _ i1) l1 rfl
    have l2 : (X1.putObj l (.loop { R .ready none with state := .busy })).heap[l]? = some (.loop { R .ready none with state := .busy }) := World.putObj_heap_same hl1
    have o2 : ∀ b, b ≠ l → (X1.putObj l (.loop { R .ready none with state := .busy })).heap[b]? = X1.heap[b]? := fun b hb => World.putObj_heap_other hb
    have s2 : (X1.putObj l (.loop { R .ready none with state := .busy })).heap.size = X1.heap.size := by simp [World.putObj]
    refine wpIn_mono (hbody l k args S a' _ hkm (hI k S _ _ i1 cb) (hAx k args S a' _ _ _ _ hlw l1 rfl ax)) ?_
    have fin : ∀ (jump : Option Code) (Y : World) (S' : Nat → Prop), OutT (fun q => S q ∨ Xs args q) (X1.putObj l (.loop { R .ready none with state := .busy })) Y → Soil S' Y →
        (Instr.endRound l jump).run P Y = .ok (.bool jump.isNone) (Y.putObj l (.loop (R (if jump.isNone then .ready else .done) jump))) ∧ Clo n0 S' Y (Y.putObj l (.loop (R (if jump.isNone then .ready else .done) jump))) ∧
        (Y.putObj l (.loop (R (if jump.isNone then .ready else .done) jump))).heap[l]? = some (.loop (R (if jump.isNone then .ready else .done) jump)) ∧ (Y.putObj l (.loop (R (if jump.isNone then .ready else .done) jump))).heap[w.heap.size]? = some (.deferred (some [])) := fun jump Y S' hoT hs => by
      have ho := hoT.1
      have lY : Y.heap[l]? = some (.loop { R .ready none with state := .busy }) := (ho.block _ (by rw [s2]; exact hl1) nl).trans l2
      refine ⟨run_endRound (P := P) jump lY, cP _ _ _ _ hs lY rfl, World.putObj_heap_same (Array.getElem?_eq_some_iff.1 lY).1, ?_⟩
      rw [World.putObj_heap_other (by omega), ho.block _ (by rw [s2]; exact (Array.getElem?_eq_some_iff.1 d1).1) nd, o2 _ (by omega), d1]
    rintro e a3 Y hp
    cases e with
    | normal =>
      obtain ⟨ho, S', hg', i3⟩ := hp
      obtain ⟨hr, hc, e1, e2⟩ := fin none Y S' ho (hS _ _ _ i3)
      obtain ⟨ho, ht⟩ := ho
      refine ⟨_, _, hr, .inl ⟨rfl, S', fun q hq => (hg' q hq).imp id fun h => Nat.le_trans hb.size (by rw [s2] at h; exact h), ⟨hI _ _ _ _ i3 hc, e1, e2⟩, ⟨ho.os.trans hb.os, ho.tape.trans hb.tape, ho.output.trans hb.output, ?_, fun i hi hx => ?_⟩, fun q hq hqs => ?_⟩⟩
      · have := ho.size; have := hb.size; simp [World.putObj] at *; omega
      · by_cases e : i = l
        · subst e; exact e1.trans h2.symm
        · rw [World.putObj_heap_other e, ho.block _ (by rw [s2]; have := hb.size; omega) hx, o2 _ e, hb.block _ hi]
      · have e : q ≠ l := fun e => nl (e ▸ hq)
        have t1 : typOf (Y.putObj l (.loop (R (if (none : Option Code).isNone then .ready else .done) none))) q = typOf Y q := by unfold typOf; rw [World.putObj_heap_other e]
        have t2 := ht q hq (by rw [s2]; have := hb.size; omega)
        have t3 : typOf (X1.putObj l (.loop { R .ready none with state := .busy })) q = typOf X1 q := by unfold typOf; rw [o2 _ e]
        have t4 : typOf X1 q = typOf X q := by unfold typOf; rw [hb.block _ hqs]
        exact (t1.trans t2).trans (t3.trans t4)
    | ret =>
      obtain ⟨ho, S', i3⟩ := hp
      obtain ⟨hr, hc, e1, e2⟩ := fin (some .ret) Y S' ho (hSx _ _ _ _ i3)
      exact ⟨_, _, hr, .inr ⟨rfl, S', .ret, hIx _ _ _ _ _ i3 hc, e1, e2⟩⟩
    | exit id =>
      obtain ⟨ho, S', i3⟩ := hp
      obtain ⟨hr, hc, e1, e2⟩ := fin (some (.exit id)) Y S' ho (hSx _ _ _ _ i3)
      exact ⟨_, _, hr, .inr ⟨rfl, S', .exit id, hIx _ _ _ _ _ i3 hc, e1, e2⟩⟩
    | goto t =>
      obtain ⟨ho, S', i3⟩ := hp
      obtain ⟨hr, hc, e1, e2⟩ := fin (some (.goto t)) Y S' ho (hSx _ _ _ _ i3)
      exact ⟨_, _, hr, .inr ⟨rfl, S', .goto t, hIx _ _ _ _ _ i3 hc, e1, e2⟩⟩
    | panic ch => exact hp.elim
    | outgrown => exact hp.elim
  · -- behind it
    rintro e Y ⟨⟨v, rfl⟩, h⟩
    rcases h with ⟨S, i1, l1, d1⟩ | ⟨k, S, hk, c, i1, l1, d1⟩
    · refine ⟨none, _, run_endLoop (P := P) l1 (by simp [R]), hdone _ S _ (Nat.le_refl _) (hI _ _ _ _ i1 (cP _ _ _ _ (hS _ _ _ i1) l1 rfl)) ?_⟩
      rw [World.putObj_heap_other (by omega)]; exact d1
    · refine ⟨some c, _, run_endLoop (P := P) l1 (by simp [R]), wpIn_wide.2 (hstop _ c k S _ (Nat.le_refl _) hk (hIx _ _ _ _ _ i1 (cP _ _ _ _ (hSx _ _ _ _ i1) l1 rfl)) ?_)⟩
      rw [World.putObj_heap_other (by omega)]; exact d1
/-- the same; the body may leave the loop: what follows is the same either way -/
theorem wp_rangeD1 {P : Program} {g : Operand} {ps : Array Tmp} {assign body : Code} {Q : Exit → Act → World → Prop} {a : Act} {w : World}
    {gf : Nat} {lb : Array Value} (hg : a.eval g = .func (.func gf) #[] lb) (eg : ∀ args w, (callFunc gf args).run P w = .ok (.enter gf args) w)
    {A : Nat → Array Value → World → Prop} {m n0 : Nat} {Xs : Array Value → Nat → Prop} {S0 : Nat → Prop} {G : World → Prop} (hseq : IterD P gf lb A m Xs n0 S0 G)
    (hn0 : n0 ≤ w.heap.size) (hG : ∀ W, Below w.heap.size w W → G W) (hps : ∀ k args X, A k args X → args.size = ps.size)
    (I : Nat → (Nat → Prop) → World → Prop) (Ix : Code → Nat → (Nat → Prop) → World → Prop) (hI : ∀ k S X Y, I k S X → Clo n0 S X Y → I k S Y) (hIx : ∀ c k S X Y, Ix c k S X → Clo n0 S X Y → Ix c k S Y)
    (hS : ∀ k S X, I k S X → Soil S X) (hSx : ∀ c k S X, Ix c k S X → Soil S X) (h0 : I 0 S0 w)
    (Ax : Array Value → Nat → Array Value → (Nat → Prop) → Act → World → Prop) (hAx : ∀ k args S a' (X : World) (l : Nat) (o o' : Obj), w.heap.size ≤ l → X.heap[l]? = some o → o.isCells = false → Ax a.tmps k args S a' X → Ax a.tmps k args S a' (X.putObj l o'))
    (hXs : ∀ k args X q, A k args X → Xs args q → ∃ o, X.heap[q]? = some o ∧ o.isCells = true)
    (hassign : ∀ (l k : Nat) (args : Array Value) (S : Nat → Prop) (X : World) (K : Act → World → Prop), k < m → I k S X → A k args X → (∀ q, Xs args q → ¬ S q) → (∀ a' Y, Below X.heap.size X Y → I k S Y → Ax a.tmps k args S a' Y → K a' Y) →
      assign.wpIn (Fence.wide.inRound l) 7 P (Exit.then K (fun _ _ _ => False)) { tmps := (ps.zip args).foldl (fun t (p, v) => t.setIfInBounds p v) a.tmps, defers := [] } X)
    (hbody : ∀ (l k : Nat) (args : Array Value) (S : Nat → Prop) (a' : Act) (X : World), k < m → I k S X → Ax a.tmps k args S a' X → body.wpIn (Fence.wide.inRound l) 7 P (postD (fun q => S q ∨ Xs args q) S I Ix (k + 1) X) a' X)
    (id : Nat) (E : World → Prop) (hE : ∀ S Y, I m S Y → E Y) (hEx : ∀ c k S Y, Ix c k S Y → c = .exit id ∧ E Y) (hQ : ∀ act Y, Q .normal act Y → Q (.exit id) act Y)
    (hends : ∀ (D : Nat) (Y : World), w.heap.size ≤ D → E Y → Y.heap[D]? = some (.deferred (some [])) → Q .normal { a with defers := { target := .collected D, args := #[] } :: a.defers } Y) :
    (Code.rangeFunc g ps assign body).wp P Q a w :=
  wp_rangeD hg eg hseq hn0 hG hps I Ix hI hIx hS hSx h0 Ax hAx hXs hassign hbody (fun D S Y h1 h2 h3 => hends D Y h1 (hE S Y h2) h3) (fun D c k S Y h1 h2 h3 h4 => by
    obtain ⟨rfl, h⟩ := hEx c k S Y h3
    exact wp_exit (hQ _ _ (hends D Y h1 h h4)))
end Go.Proofs.YtannhpadoooedaaGreatDoor

/- exact: run on rows, told to a loop's body. -/
namespace Go.Proofs.YtannhpadoooedaaGreatDoor
open Num
open Go.ChangeShapes Go.WideShapes Go.ChangeAt Go.RowKit
set_option linter.unusedVariables false
set_option linter.unusedSimpArgs false
attribute [local go_sem ↓] Go.wp_at_zero Go.wp_at_succ
/-- a row that lies in none of the blocks S -/
def PRowX (S : Nat → Prop) (w : World) (v : Value) (l : List Int) : Prop := PRow 0 w v l ∧ (l = [] ∨ ∀ b, rowBlk v = some b → ¬ S b)
section
variable {S S' : Nat → Prop} {w w' : World} {v : Value} {l : List Int} {base : Nat}
theorem PRowX.keep (h : PRowX S w v l) (k : Below w.heap.size w w') : PRowX S w' v l := ⟨h.1.keep lims_int k, h.2⟩
theorem Soil.lt (h : Soil S w) {q : Nat} (hq : S q) : q < w.heap.size := by obtain ⟨t, ht, _⟩ := h q hq; exact typ_lt ht
theorem PRowX.of (h : PRow base w v l) (hS : ∀ q, S q → q < base) : PRowX S w v l := by
  refine ⟨h.rebase (Nat.zero_le _), ?_⟩
  obtain ⟨a, c, rfl, _, _, h4⟩ := h
  rcases h4 with h4 | ⟨b, off, rfl, hb, _⟩
  · exact .inl h4
  · refine .inr fun q hq hs => ?_
    simp [rowBlk] at hq
    subst hq
    have := hS _ hs
    omega
theorem OutT.lim (h : OutT S w w') (hS : Soil S w) : Lim w w' := fun q ht => by
  have hq : ¬ S q := fun hs => by
    obtain ⟨t, h1, h2⟩ := hS q hs
    rw [ht] at h1; cases h1; exact h2 rfl
  have e := h.1.block q (typ_lt ht) hq
  exact ⟨by rw [typ_of_block (w := w) e]; exact ht, fun o n hc => by rw [World.cell?_of_block (w := w) e]; exact hc⟩
theorem PRowX.told (h : PRowX S w v l) (ho : OutT S w w') (hS : Soil S w) (hg : Grew S S' w) : PRowX S' w' v l := by
  obtain ⟨⟨a, c, rfl, h1, h2, h4⟩, hx⟩ := h
  rcases h4 with h4 | ⟨b, off, rfl, hb, ht, hi⟩
  · exact ⟨⟨a, c, rfl, h1, h2, .inl h4⟩, .inl h4⟩
  · rcases hx with hx | hx
    · exact ⟨⟨_, c, rfl, h1, h2, .inl hx⟩, .inl hx⟩
    · have hn : ¬ S b := hx b rfl
      have e := ho.1.block b (typ_lt ht) hn
      refine ⟨⟨_, c, rfl, h1, h2, .inr ⟨b, off, rfl, hb, by rw [typ_of_block (w := w) e]; exact ht, hi.stay lims_int e (ho.lim hS)⟩⟩, .inr fun q hq hs => ?_⟩
      simp [rowBlk] at hq
      subst hq
      rcases hg _ hs with h | h
      · exact hn h
      · have := typ_lt ht; omega
end
/-- the registers in a block that may be written; their rows lie in none of the blocks S -/
structure RegsX (S : Nat → Prop) (w : World) (rb : Nat) (g : Grid) : Prop where
  free : Free w rb
  ty : typOf w rb = some 29
  cell : ∀ k, k < g.length → ∃ u, w.cell? ⟨rb, k, none⟩ = some u ∧ PRowX S w u (g.getD k [])
section
variable {S S' : Nat → Prop} {w w' : World} {rb base : Nat} {g : Grid}
theorem RegsX.regs (h : RegsX S w rb g) : RegsP 0 w rb g := ⟨h.free, h.ty, fun k hk => by obtain ⟨u, hu, hr⟩ := h.cell k hk; exact ⟨u, hu, hr.1⟩⟩
theorem RegsX.keep (h : RegsX S w rb g) (k : Below w.heap.size w w') : RegsX S w' rb g :=
  ⟨h.free.keep k, typ_keep h.ty k, fun j hj => by obtain ⟨u, hu, hr⟩ := h.cell j hj; exact ⟨u, bkeep k hu, hr.keep k⟩⟩
theorem RegsX.of (h : RegsP base w rb g) (hS : ∀ q, S q → q < base) : RegsX S w rb g :=
  ⟨h.free, h.ty, fun j hj => by obtain ⟨u, hu, hr⟩ := h.cell j hj; exact ⟨u, hu, .of hr hS⟩⟩
theorem RegsX.told (h : RegsX S w rb g) (hr : ¬ S rb) (ho : OutT S w w') (hS : Soil S w) (hg : Grew S S' w) : RegsX S' w' rb g :=
  ⟨h.free.out ho.1 hr, typ_outK h.ty ho.1 hr, fun j hj => by obtain ⟨u, hu, hr'⟩ := h.cell j hj; exact ⟨u, okeep ho.1 hu hr, hr'.told ho hS hg⟩⟩
theorem RegsX.step {nt : Nat} {v : Value} {r : List Int} (h : RegsX S w rb g) (hv : PRowX S w v r) (ht : nt < g.length) : RegsX S (w.setCell ⟨rb, nt, none⟩ v) rb (g.set nt r) := by
  have hk : Kp (· ≠ 29) w (w.setCell ⟨rb, nt, none⟩ v) := (Kp.refl _ w).set (fun t ht => by rw [h.ty] at ht; cases ht; exact fun k => k rfl) _
  have hp : ∀ {u : Value} {l : List Int}, PRowX S w u l → PRowX S (w.setCell ⟨rb, nt, none⟩ v) u l := fun h => ⟨h.1.kp lims_int hk (by decide) (by decide), h.2⟩
  refine ⟨h.free.set _ _, by rw [typ_set]; exact h.ty, fun k hk' => ?_⟩
  rw [List.length_set] at hk'
  by_cases e : nt = k
  · subst e
    obtain ⟨u, hu, _⟩ := h.cell nt hk'
    refine ⟨v, cell_here hu _, ?_⟩
    have : (g.set nt r).getD nt [] = r := by simp [hk']
    rw [this]
    exact hp hv
  · obtain ⟨u, hu, hr⟩ := h.cell k hk'
    refine ⟨u, cell_far hu (fun e2 => e (by cases e2; rfl)) _, ?_⟩
    have : (g.set nt r).getD k [] = g.getD k [] := by simp [List.getElem?_set_ne e]
    rw [this]
    exact hp hr
end
/-- how many instructions are told -/
structure ToldG (code : List Ins) (g : Grid) (m : Nat) : Prop where
  le : m ≤ code.length
  has : ∃ h, after code g m = some h
  stop : m < code.length → after code g (m + 1) = none
theorem ToldG.lt {code : List Ins} {g h : Grid} {m n : Nat} (t : ToldG code g m) (hn : n < code.length) (e : after code g (n + 1) = some h) (hm : n ≤ m) : n < m := by
  rcases Nat.lt_or_ge n m with h1 | h1
  · exact h1
  · obtain rfl : n = m := by omega
    rw [t.stop hn] at e; cases e
theorem ToldG.eq {code : List Ins} {g : Grid} {m n : Nat} (t : ToldG code g m) (e : after code g (n + 1) = none) (hm : n ≤ m) : n = m := by
  rcases Nat.lt_or_ge n m with h1 | h1
  · obtain ⟨s, hs⟩ := t.has
    rw [after_mono e (show n + 1 ≤ m by omega)] at hs; cases hs
  · omega
/-- a function value that tells a body of each instruction's row -/
def FnTD (F : Nat) (caps : Array Value) (T : Nat → List Int) (M : Nat) (J Jx : Nat → (Nat → Prop) → World → Prop) (C : World → Prop) : Prop :=
  ∀ k S W v, k < M → J k S W → C W → PRow 0 W v (T k) → Calls Tryz.prog F (#[.int .i64 (k : Int), v] ++ caps) W fun e W' => (∃ b, e = .returned (.bool b) ∧ ((b = true ∧ ∃ S', Grew S S' W ∧ J (k + 1) S' W' ∧ OutT S W W') ∨ (b = false ∧ ∃ S', Jx (k + 1) S' W')))
/-- what run answers, that is told to a body -/
def RunTPost (m : Nat) (J Jx : Nat → (Nat → Prop) → World → Prop) (e : Ending) (w' : World) : Prop := (∃ q : Int, e = .returned (.int .i64 q)) ∧ ((∃ S, J m S w') ∨ ∃ k S, k ≤ m ∧ Jx k S w')
set_option maxRecDepth 100000 in
set_option maxHeartbeats 16000000 in
theorem runT_c (n0 M : Nat) (S0 : Nat → Prop) (J Jx : Nat → (Nat → Prop) → World → Prop) (hJ : ∀ k S X Y, J k S X → Clo n0 S X Y → KeepsOthers X Y → J k S Y) (hJS : ∀ k S X, J k S X → Soil S X) (hS0 : ∀ q, S0 q → q < n0) (ins regs : Int) (ca oa : Option Addr) (cc ol oc : Nat) (code : List Ins) (g : Grid) (m K rb F : Nat) (caps : Array Value) (w : World) (hc : InsV w ca cc code) (hcs : ∀ n, n < code.length → InsOk (code.getD n default) g.length) (hcl : code.length ≤ 16384) (hCs : Cs code) (hg128 : g.length ≤ 128)
    (hI : RegsP n0 w rb g) (hR : Rect m g) (hm : m ≤ 1099511627775) (hb : BdG K g) (hK : K ≤ 2147483648) (hM : ToldG code g M) (hft : FnTD F caps (toldR code g) M J Jx (Out (fun k => k = rb ∨ S0 k) w)) (eF : Enters Tryz.prog F) (hne : ∀ b off, ca = some ⟨b, off, none⟩ → 0 < code.length → b ≠ rb ∧ ¬ S0 b) (hn0 : n0 ≤ rb) (h00 : J 0 S0 w) :
    Calls Tryz.prog 85 #[rowsV, .agg #[.int .i64 ins, .int .i64 regs, .slice ca code.length cc, .slice oa ol oc], .slice (some ⟨rb, 0, none⟩) g.length g.length, .func (.func F) #[] caps] w (RunTPost M J Jx) := by
  have HC := Lib.hid hc
  have HCS := Lib.hid hcs
  have HCs := Lib.hid hCs
  have HBD := Lib.hid (And.intro hb (And.intro hR (fun n (hn : n < code.length) => (show (code.getD n default).a.toNat < g.length by have := (hcs n hn).a0; have := (hcs n hn).a1; omega))))
  have HFT := Lib.hid hft
  have HNE := Lib.hid hne
  have HI := Lib.hid (RegsX.of hI hS0)
  have HJ := Lib.hid hJ
  have HJS := Lib.hid hJS
  have HS0 := Lib.hid hS0
  have HM := Lib.hid hM
  have H00 := Lib.hid h00
  have zrb := hI.free.1
  clear hc hcs hCs hb hft hI hR hne hJ hJS hS0 hM h00
  unfold Enters at eF
  have hB := Below.refl w.heap.size w
  unfold rowsV
  obtain ⟨R, hR⟩ : ∃ R, g.length = R := ⟨_, rfl⟩
  rw [hR] at HCS hg128 ⊢
  have HR := Lib.hid hR
  clear hR
  go_enter Tryz.func85, Tryz.ntmps85
  go_wp2
  go_step3
  go_wp2
  go_step3
  go_wp2
  refine wp_name fun w0 hW0 => ?_
  have f0 : w0.cell? ⟨w.heap.size, 0, none⟩ = some (.func (.func 135) #[] #[]) := by rw [hW0]; exact (by first | assumption | exact cell_new (by with_reducible first | rfl | (simp; done) | (simp; omega)) rfl | (repeat (first | assumption | exact cell_new (by with_reducible first | rfl | (simp; done) | (simp; omega)) rfl | refine cell_alloc ?_ _ | refine cell_drew ?_ | refine cell_drewN ?_ _ | refine cell_far ?_ (by simp) _ | (refine cell_far ?_ (by simp <;> omega) _))) | simp [go_sem, *])
  have zf0 := cell_lt f0
  have f1 : w0.cell? ⟨w.heap.size, 1, none⟩ = some (.func (.func 136) #[] #[]) := by rw [hW0]; exact (by first | assumption | exact cell_new (by with_reducible first | rfl | (simp; done) | (simp; omega)) rfl | (repeat (first | assumption | exact cell_new (by with_reducible first | rfl | (simp; done) | (simp; omega)) rfl | refine cell_alloc ?_ _ | refine cell_drew ?_ | refine cell_drewN ?_ _ | refine cell_far ?_ (by simp) _ | (refine cell_far ?_ (by simp <;> omega) _))) | simp [go_sem, *])
  have f2 : w0.cell? ⟨w.heap.size, 2, none⟩ = some (.func (.func 138) #[] #[]) := by rw [hW0]; exact (by first | assumption | exact cell_new (by with_reducible first | rfl | (simp; done) | (simp; omega)) rfl | (repeat (first | assumption | exact cell_new (by with_reducible first | rfl | (simp; done) | (simp; omega)) rfl | refine cell_alloc ?_ _ | refine cell_drew ?_ | refine cell_drewN ?_ _ | refine cell_far ?_ (by simp) _ | (refine cell_far ?_ (by simp <;> omega) _))) | simp [go_sem, *])
  have f3 : w0.cell? ⟨w.heap.size, 3, none⟩ = some (.func (.func 140) #[] #[]) := by rw [hW0]; exact (by first | assumption | exact cell_new (by with_reducible first | rfl | (simp; done) | (simp; omega)) rfl | (repeat (first | assumption | exact cell_new (by with_reducible first | rfl | (simp; done) | (simp; omega)) rfl | refine cell_alloc ?_ _ | refine cell_drew ?_ | refine cell_drewN ?_ _ | refine cell_far ?_ (by simp) _ | (refine cell_far ?_ (by simp <;> omega) _))) | simp [go_sem, *])
  have f4 : w0.cell? ⟨w.heap.size, 4, none⟩ = some (.func (.func 141) #[] #[]) := by rw [hW0]; exact (by first | assumption | exact cell_new (by with_reducible first | rfl | (simp; done) | (simp; omega)) rfl | (repeat (first | assumption | exact cell_new (by with_reducible first | rfl | (simp; done) | (simp; omega)) rfl | refine cell_alloc ?_ _ | refine cell_drew ?_ | refine cell_drewN ?_ _ | refine cell_far ?_ (by simp) _ | (refine cell_far ?_ (by simp <;> omega) _))) | simp [go_sem, *])
  have p2 : w0.cell? ⟨w.heap.size + 1, 2, none⟩ = some (.slice ca code.length cc) := by rw [hW0]; exact (by first | assumption | exact cell_new (by with_reducible first | rfl | (simp; done) | (simp; omega)) rfl | (repeat (first | assumption | exact cell_new (by with_reducible first | rfl | (simp; done) | (simp; omega)) rfl | refine cell_alloc ?_ _ | refine cell_drew ?_ | refine cell_drewN ?_ _ | refine cell_far ?_ (by simp) _ | (refine cell_far ?_ (by simp <;> omega) _))) | simp [go_sem, *])
  have zp2 := cell_lt p2
  have hB : Below w.heap.size w w0 := by rw [hW0]; repeat (first | exact Below.refl _ _ | exact hB | refine Below.drew ?_ | refine below_drewN ?_ _ | refine bset ?_ (by simp <;> omega) _ | refine bal ?_ _)
  have hz : w.heap.size ≤ w0.heap.size := hB.size
  clear hW0
  have HP := Lib.hid (show ∀ W, Out (fun k => k = rb ∨ S0 k) w0 W → W.cell? ⟨w.heap.size, 0, none⟩ = some (.func (.func 135) #[] #[]) ∧ W.cell? ⟨w.heap.size, 1, none⟩ = some (.func (.func 136) #[] #[]) ∧ W.cell? ⟨w.heap.size, 2, none⟩ = some (.func (.func 138) #[] #[]) ∧ W.cell? ⟨w.heap.size, 3, none⟩ = some (.func (.func 140) #[] #[]) ∧ W.cell? ⟨w.heap.size, 4, none⟩ = some (.func (.func 141) #[] #[]) ∧ W.cell? ⟨w.heap.size + 1, 2, none⟩ = some (.slice ca code.length cc) from fun W h =>
    have hne : ¬ (w.heap.size = rb ∨ S0 w.heap.size) := fun h => by rcases h with h | h; (omega); (have := HS0.out _ h; omega)
    have hne1 : ¬ (w.heap.size + 1 = rb ∨ S0 (w.heap.size + 1)) := fun h => by rcases h with h | h; (omega); (have := HS0.out _ h; omega)
    ⟨okeep h f0 hne, okeep h f1 hne, okeep h f2 hne, okeep h f3 hne, okeep h f4 hne, okeep h p2 hne1⟩)
  have hO0 := Out.of_below (fun k => k = rb ∨ S0 k) hB
  clear f0 f1 f2 f3 f4 p2
  go_loopw [16] (fun x wr => ∃ n : Nat, n ≤ code.length ∧ x = .int .i64 n ∧ Out (fun k => k = rb ∨ S0 k) w0 wr ∧ n ≤ M ∧ Hid (∃ h S, after code g n = some h ∧ RegsX S wr rb h ∧ J n S wr ∧ (∀ q, S q → S0 q ∨ w0.heap.size ≤ q))) (fun x _ => code.length - (intOf x).toNat)
  case atStart => exact ⟨0, Nat.zero_le _, rfl, Out.refl _ _, Nat.zero_le _, Lib.hid ⟨g, S0, rfl, HI.out.keep hB, HJ.out 0 _ _ _ H00.out (.of_below hB) (out_others (Out.of_below (fun _ => False) hB) fun _ h => h.elim), fun q hq => .inl hq⟩⟩
  case round =>
    obtain ⟨n, hn, rfl, hOr, hnM, hrel⟩ := hrel
    obtain ⟨h, S, hs, hI, hjn, hSq⟩ := hrel.out
    have HS := Lib.hid (And.intro hs hI)
    have HJN := Lib.hid (And.intro hjn hSq)
    have HSL' := Lib.hid (HJS.out n S wr hjn)
    have hOw : Out (fun k => k = rb ∨ S0 k) w wr := hO0.trans hOr
    have hSrb : ¬ S rb := fun h => by
      have h2 := hB.size
      rcases hSq rb h with h | h
      · have := HS0.out rb h; omega
      · omega
    have HSRB := Lib.hid hSrb
    have hsl := (after_len hs).trans HR.out
    have HRC := Lib.hid (after_rect HBD.out.2.1 rfl HBD.out.2.2 hn hs)
    have HBN := Lib.hid (after_bd HBD.out.1 HCs.out hn hs)
    have hz0 : w0.heap.size ≤ wr.heap.size := hOr.size
    obtain ⟨f0, f1, f2, f3, f4, p2⟩ := HP.out wr hOr
    have HSL := Lib.hid hsl
    clear hs hI hrel hsl hjn hSq hSrb
    by_cases hlt : n < code.length
    · have hltI : (n : Int) < (code.length : Int) := by omega
      rcases HC.out with h0 | ⟨cb, co, rfl, hcap, hcell⟩
      · rw [h0] at hlt; simp at hlt
      have hcb : ¬ (cb = rb ∨ S0 cb) := fun h => by rcases h with h | h; exact (HNE.out cb co rfl (by omega)).1 h; exact (HNE.out cb co rfl (by omega)).2 h
      obtain ⟨q0, q1, q2, q3, q4⟩ := hcell n hlt
      replace q0 := okeep hOw q0 hcb
      replace q1 := okeep hOw q1 hcb
      replace q2 := okeep hOw q2 hcb
      replace q3 := okeep hOw q3 hcb
      replace q4 := okeep hOw q4 hcb
      have zq := cell_lt q0
      have zf := cell_lt f0
      have zp := cell_lt p2
      have hio := HCS.out n hlt
      obtain ⟨uz, huz, hux⟩ := HS.out.2.cell (code.getD n default).a.toNat (by have := hio.a0; have := hio.a1; rw [HSL.out]; omega)
      have dc := fun W (k : Below wr.heap.size wr W) => doR_c (code.getD n default) (K + 65 * n) rb m h uz W (HS.out.2.regs.keep k) (bkeep k huz) (by rw [HSL.out]; exact hio) HRC.out hm HBN.out (by omega) (by rw [HSL.out]; exact hg128)
      rw [HSL.out] at dc
      have HNX := Lib.hid (fun (h : Grid) (e : after code g n = some h) => (show after code g (n + 1) = (stepR (code.getD n default) (h.getD (code.getD n default).a.toNat []) (h.getD (code.getD n default).b.toNat [])).map fun r => h.set (code.getD n default).to.toNat r by rw [after, e]; rfl))
      have t0 := hio.t0
      have t1 := hio.t1
      have HTO := Lib.hid (fun (r : List Int) (e : stepR (code.getD n default) (h.getD (code.getD n default).a.toNat []) (h.getD (code.getD n default).b.toNat []) = some r) => toldR_eq HS.out.1 e)
      have HUX := Lib.hid (fun r (e : stepR (code.getD n default) (h.getD (code.getD n default).a.toNat []) (h.getD (code.getD n default).b.toNat []) = some r) => (show r = [] ∨ ∀ b, rowBlk uz = some b → ¬ S b from hux.2.imp (fun h0 => by have := stepR_len e; rw [h0] at this; exact List.length_eq_zero_iff.1 this) id))
      obtain ⟨Z, hZ⟩ : ∃ Z, stepR (code.getD n default) (h.getD (code.getD n default).a.toNat []) (h.getD (code.getD n default).b.toNat []) = Z := ⟨_, rfl⟩
      rw [hZ] at dc HTO HUX
      have HZ := Lib.hid hZ
      obtain ⟨i, hi⟩ : ∃ i, i = code.getD n default := ⟨_, rfl⟩
      rw [← hi] at q0 q1 q2 q3 q4 dc t0 t1
      have HIN := Lib.hid hi
      clear hi hcell hio hZ huz hux
      obtain ⟨op, it, ia, ib, ic⟩ := i
      dsimp only at q0 q1 q2 q3 q4 t0 t1
      obtain ⟨nt, rfl⟩ : ∃ x : Nat, it = x := ⟨it.toNat, by omega⟩
      have t1' : nt < R := by omega
      unfold Ins.v rowsV at dc
      dsimp only at dc
      unfold AnsL at dc
      have hBw := Below.refl wr.heap.size wr
      cases Z with
      | none =>
        dsimp only at dc
        go_wp2_with fail
        refine (dc _ (by repeat (first | exact Below.refl _ _ | exact hBw | refine Below.drew ?_ | refine below_drewN ?_ _ | refine bset ?_ (by simp <;> omega) _ | refine bal ?_ _))).mono ?_
        rintro e w5 ⟨⟨a5, n5, c5, rfl⟩, hb5⟩
        have hB5 : Below wr.heap.size wr w5 := bthen (by repeat (first | exact Below.refl _ _ | exact hBw | refine Below.drew ?_ | refine below_drewN ?_ _ | refine bset ?_ (by simp <;> omega) _ | refine bal ?_ _)) hb5
        clear dc
        have hfa : after code g (n + 1) = none := by rw [HNX.out h HS.out.1, HZ.out]; rfl
        obtain rfl : n = M := HM.out.eq hfa hnM
        clear q0 q1 q2 q3 q4 f0 f1 f2 f3 f4 p2
        go_wp2
        go_ret
        refine ⟨⟨_, rfl⟩, .inl ⟨S, HJ.out _ _ _ _ HJN.out.1 ?_ ?_⟩⟩
        · exact .of_below (by repeat (first | exact Below.refl _ _ | exact hB5 | refine Below.drew ?_ | refine below_drewN ?_ _ | refine bset ?_ (by simp <;> omega) _ | refine bal ?_ _))
        · exact out_others (Out.of_below (fun _ => False) (by repeat (first | exact Below.refl _ _ | exact hB5 | refine Below.drew ?_ | refine below_drewN ?_ _ | refine bset ?_ (by simp <;> omega) _ | refine bal ?_ _))) fun _ h => h.elim
      | some z =>
        dsimp only at dc
        go_wp2_with fail
        refine (dc _ (by repeat (first | exact Below.refl _ _ | exact hBw | refine Below.drew ?_ | refine below_drewN ?_ _ | refine bset ?_ (by simp <;> omega) _ | refine bal ?_ _))).mono ?_
        rintro e w5 ⟨⟨v5, rfl, hi5, hx5⟩, hb5⟩
        have i1 : w5.cell? ⟨wr.heap.size, 1, none⟩ = some (.int .i64 nt) := bkeep hb5 (by first | exact cell_new rfl rfl | exact cell_drew (cell_new rfl rfl))
        have hB5 : Below wr.heap.size wr w5 := bthen (by repeat (first | exact Below.refl _ _ | exact hBw | refine Below.drew ?_ | refine below_drewN ?_ _ | refine bset ?_ (by simp <;> omega) _ | refine bal ?_ _)) hb5
        have HV5 := Lib.hid hi5
        have HVX := Lib.hid (show PRowX S w5 v5 z from by
          rcases hx5 with rfl | hx5
          · exact ⟨hi5, HUX.out z rfl⟩
          · exact PRowX.of (hx5.rebase (show wr.heap.size ≤ _ from (show Below wr.heap.size wr _ by repeat (first | exact Below.refl _ _ | exact hBw | refine Below.drew ?_ | refine below_drewN ?_ _ | refine bset ?_ (by simp <;> omega) _ | refine bal ?_ _)).size)) fun q hq => HSL'.out.lt hq)
        clear hx5
        obtain ⟨a5, c5, rfl, -⟩ := hi5
        clear dc
        have hR5 := HS.out.2.keep hB5
        have hnt : nt < h.length := by rw [HSL.out]; exact t1'
        obtain ⟨u0, o0, -⟩ := hR5.cell nt hnt
        have of0 := hR5.free.2 nt
        have zo := cell_lt o0
        have zi := cell_lt i1
        have HR5 := Lib.hid hR5
        clear hR5
        have hN : Hid (∀ W, W = w5.setCell ⟨rb, nt, none⟩ (.slice a5 z.length c5) → RegsX S W rb (h.set nt z) ∧ PRow 0 W (.slice a5 z.length c5) z ∧ Out (fun k => k = rb ∨ S0 k) w0 W ∧ Out (fun k => k = rb) wr W) := Lib.hid fun W hW => by
          subst hW
          have hk : Kp (· ≠ 29) w5 (w5.setCell ⟨rb, nt, none⟩ (.slice a5 z.length c5)) := (Kp.refl _ w5).set (fun t ht => by rw [HR5.out.ty] at ht; cases ht; exact fun k => k rfl) _
          exact ⟨HR5.out.step HVX.out hnt, HV5.out.kp lims_int hk (by decide) (by decide), (hOr.below hB5).set (fun _ => .inl rfl) _, (Out.of_below (fun k => k = rb) hB5).set (fun _ => rfl) _⟩
        have HST := Lib.hid (show after code g (n + 1) = some (h.set nt z) by rw [HNX.out h HS.out.1, HZ.out, ← HIN.out, Option.map_some]; dsimp only; rw [Int.toNat_natCast])
        go_upto_region 8 with (fail)
        refine wp_name fun w6 hW6 => ?_
        have HN6 := Lib.hid (hN.out w6 hW6)
        have hlM : n < M := HM.out.lt hlt HST.out hnM
        have hTW := HS.out.2.ty
        have hO8 := HN6.out.2.2.2
        have HJ6 := Lib.hid (HJ.out n S _ _ HJN.out.1 (Clo.of_out hO8 fun q hq _ => by subst hq; exact ⟨hn0, HSRB.out, by rw [hTW]; decide⟩) (out_others hO8 fun q hq _ => by subst hq; exact typ_cells hTW))
        have HSO := Lib.hid (HJS.out n S w6 HJ6.out)
        have HRT := Lib.hid (show PRow 0 w6 (.slice a5 z.length c5) (toldR code g n) by rw [HTO.out z rfl]; exact HN6.out.2.1)
        have HOW := Lib.hid (hO0.trans HN6.out.2.2.1)
        clear hW6 hN o0 of0 i1 HR5 HV5 HVX q0 q1 q2 q3 q4 f0 f1 f2 f3 f4 p2 hTW hO8
        have hB6 := Below.refl w6.heap.size w6
        go_wp2_with (go_at_fn F; refine (HFT.out n S _ _ hlM ?_ ?_ ?_).mono ?_; (exact HJ.out n S _ _ HJ6.out (.of_below (by repeat (first | exact Below.refl _ _ | exact hB6 | refine Below.drew ?_ | refine below_drewN ?_ _ | refine bset ?_ (by simp <;> omega) _ | refine bal ?_ _))) (out_others (Out.of_below (fun _ => False) (by repeat (first | exact Below.refl _ _ | exact hB6 | refine Below.drew ?_ | refine below_drewN ?_ _ | refine bset ?_ (by simp <;> omega) _ | refine bal ?_ _))) fun _ h => h.elim)); (refine HOW.out.below ?_; (repeat (first | exact Below.refl _ _ | exact hB6 | refine Below.drew ?_ | refine below_drewN ?_ _ | refine bset ?_ (by simp <;> omega) _ | refine bal ?_ _))); (refine HRT.out.keep lims_int ?_; (repeat (first | exact Below.refl _ _ | exact hB6 | refine Below.drew ?_ | refine below_drewN ?_ _ | refine bset ?_ (by simp <;> omega) _ | refine bal ?_ _))); rintro e w7 ⟨bb, rfl, hres⟩)
        · obtain rfl : bb = false := by cases bb <;> simp_all
          have HX7 : Hid (∃ S', Jx (n + 1) S' w7) := by
            rcases hres with ⟨h, -⟩ | ⟨-, h⟩
            · cases h
            · exact Lib.hid h
          clear HN6 hres
          go_ret
          obtain ⟨S', hx⟩ := HX7.out
          exact ⟨⟨_, rfl⟩, .inr ⟨n + 1, S', by omega, hx⟩⟩
        · obtain rfl : bb = true := by cases bb <;> simp_all
          have HRES := Lib.hid hres
          clear hres
          have hNEXT : Hid (Out (fun k => k = rb ∨ S0 k) w0 w7 ∧ ∃ h' S', after code g (n + 1) = some h' ∧ RegsX S' w7 rb h' ∧ J (n + 1) S' w7 ∧ (∀ q, S' q → S0 q ∨ w0.heap.size ≤ q)) := by
            rcases HRES.out with ⟨-, S', hg', hj', ho'⟩ | ⟨h, -⟩
            · refine Lib.hid ⟨(HN6.out.2.2.1.below (by repeat (first | exact Below.refl _ _ | exact hB6 | refine Below.drew ?_ | refine below_drewN ?_ _ | refine bset ?_ (by simp <;> omega) _ | refine bal ?_ _))).then ho'.1 fun i hi hs => ?_, _, S', HST.out, ((HN6.out.1.keep (by repeat (first | exact Below.refl _ _ | exact hB6 | refine Below.drew ?_ | refine below_drewN ?_ _ | refine bset ?_ (by simp <;> omega) _ | refine bal ?_ _))).told HSRB.out ho' ?_ hg'), hj', fun q hq => ?_⟩
              · rcases HJN.out.2 i hs with h | h
                · exact .inr h
                · omega
              · intro q hq
                obtain ⟨t, h1, h2⟩ := HSO.out q hq
                exact ⟨t, typ_keep h1 (by repeat (first | exact Below.refl _ _ | exact hB6 | refine Below.drew ?_ | refine below_drewN ?_ _ | refine bset ?_ (by simp <;> omega) _ | refine bal ?_ _)), h2⟩
              · rcases hg' q hq with h | h
                · exact HJN.out.2 q h
                · right
                  have h2 := HN6.out.2.2.1.size
                  exact Nat.le_trans h2 (Nat.le_trans (show Below w6.heap.size w6 _ by repeat (first | exact Below.refl _ _ | exact hB6 | refine Below.drew ?_ | refine below_drewN ?_ _ | refine bset ?_ (by simp <;> omega) _ | refine bal ?_ _)).size h)
            · cases h
          exact ⟨⟨n + 1, by omega, by go_num, hNEXT.out.1, by omega, Lib.hid hNEXT.out.2⟩, by simp [intOf]; omega⟩
    · obtain rfl : n = code.length := by omega
      go_wp2
      go_ret
      obtain rfl : M = code.length := Nat.le_antisymm HM.out.le hnM
      exact ⟨⟨_, rfl⟩, .inl ⟨S, HJN.out.1⟩⟩
end Go.Proofs.YtannhpadoooedaaGreatDoor

/- The reference's programs: Check, Right. -/
namespace Go.Proofs.YtannhpadoooedaaGreatDoor
open Go.ChangeShapes Go.WideShapes Go.ChangeAt Go.RowKit
set_option linter.unusedVariables false
set_option linter.unusedSimpArgs false
/-- what the reference's Check answers; its Right -/
def RCheckP (ins regs : Int) (code : List Ins) (outs : List Int) (w : World) (e : Ending) (w' : World) : Prop := ∃ (r : Int) (b : Bool), e = .returned (.tuple #[.int .i64 r, .bool b]) ∧ (b = false ↔ ProgOk ins regs code outs) ∧ Below w.heap.size w w'
def RightP (ins regs : Int) (code : List Ins) (outs : List Int) (w : World) (e : Ending) (w' : World) : Prop := ∃ b : Bool, e = .returned (.bool b) ∧ (b = true ↔ ProgOk ins regs code outs) ∧ Below w.heap.size w w'
theorem rck_no {ins regs r : Int} {code : List Ins} {outs : List Int} {w w' : World} (h : ¬ ProgOk ins regs code outs) (hb : Below w.heap.size w w') : RCheckP ins regs code outs w (.returned (.tuple #[.int .i64 r, .bool true])) w' := ⟨_, _, rfl, ⟨(fun k => by cases k), fun k => absurd k h⟩, hb⟩
theorem rck_yes {ins regs r : Int} {code : List Ins} {outs : List Int} {w w' : World} (h : ProgOk ins regs code outs) (hb : Below w.heap.size w w') : RCheckP ins regs code outs w (.returned (.tuple #[.int .i64 r, .bool false])) w' := ⟨_, _, rfl, ⟨fun _ => h, fun _ => rfl⟩, hb⟩
theorem rri_no {ins regs : Int} {code : List Ins} {outs : List Int} {w w' : World} (h : ¬ ProgOk ins regs code outs) (hb : Below w.heap.size w w') : RightP ins regs code outs w (.returned (.bool false)) w' := ⟨_, rfl, ⟨(fun k => by cases k), fun k => absurd k h⟩, hb⟩
theorem rri_yes {ins regs : Int} {code : List Ins} {outs : List Int} {w w' : World} (h : ProgOk ins regs code outs) (hb : Below w.heap.size w w') : RightP ins regs code outs w (.returned (.bool true)) w' := ⟨_, rfl, ⟨fun _ => h, fun _ => rfl⟩, hb⟩
set_option maxRecDepth 100000 in
set_option maxHeartbeats 8000000 in
theorem rcheck_c (ins regs : Int) (ca oa : Option Addr) (cc oc : Nat) (code : List Ins) (outs : List Int) (w : World) (hc : InsV w ca cc code) (ho : IntsV w oa oc outs) :
    Calls Tryz.prog 61 #[.agg #[.int .i64 ins, .int .i64 regs, .slice ca code.length cc, .slice oa outs.length oc]] w (RCheckP ins regs code outs w) := by
  have hB := Below.refl w.heap.size w
  by_cases h1 : ins < 1
  · have HM := Lib.hid (show ¬ ProgOk ins regs code outs from fun k => by have := k.i1; omega)
    go_enter Tryz.func61, Tryz.ntmps61
    go_wp2
    go_ret2
    refine rck_no HM.out ?_
    repeat (first | exact Below.refl _ _ | exact hB | refine Below.drew ?_ | refine below_drewN ?_ _ | refine bset ?_ (by simp <;> omega) _ | refine bal ?_ _)
  by_cases h2 : regs < ins
  · have HM := Lib.hid (show ¬ ProgOk ins regs code outs from fun k => by have := k.i2; omega)
    go_enter Tryz.func61, Tryz.ntmps61
    go_wp2
    go_ret2
    refine rck_no HM.out ?_
    repeat (first | exact Below.refl _ _ | exact hB | refine Below.drew ?_ | refine below_drewN ?_ _ | refine bset ?_ (by simp <;> omega) _ | refine bal ?_ _)
  by_cases h3 : 128 < regs
  · have HM := Lib.hid (show ¬ ProgOk ins regs code outs from fun k => by have := k.r1; omega)
    go_enter Tryz.func61, Tryz.ntmps61
    go_wp2
    go_ret2
    refine rck_no HM.out ?_
    repeat (first | exact Below.refl _ _ | exact hB | refine Below.drew ?_ | refine below_drewN ?_ _ | refine bset ?_ (by simp <;> omega) _ | refine bal ?_ _)
  by_cases h4 : (16384 : Int) < (code.length : Int)
  · have HM := Lib.hid (show ¬ ProgOk ins regs code outs from fun k => by have := k.c1; omega)
    go_enter Tryz.func61, Tryz.ntmps61
    go_wp2
    go_ret2
    refine rck_no HM.out ?_
    repeat (first | exact Below.refl _ _ | exact hB | refine Below.drew ?_ | refine below_drewN ?_ _ | refine bset ?_ (by simp <;> omega) _ | refine bal ?_ _)
  by_cases h5 : (outs.length : Int) < 1
  · have HM := Lib.hid (show ¬ ProgOk ins regs code outs from fun k => by have := k.o1; omega)
    go_enter Tryz.func61, Tryz.ntmps61
    go_wp2
    go_ret2
    refine rck_no HM.out ?_
    repeat (first | exact Below.refl _ _ | exact hB | refine Below.drew ?_ | refine below_drewN ?_ _ | refine bset ?_ (by simp <;> omega) _ | refine bal ?_ _)
  by_cases h6 : (128 : Int) < (outs.length : Int)
  · have HM := Lib.hid (show ¬ ProgOk ins regs code outs from fun k => by have := k.o2; omega)
    go_enter Tryz.func61, Tryz.ntmps61
    go_wp2
    go_ret2
    refine rck_no HM.out ?_
    repeat (first | exact Below.refl _ _ | exact hB | refine Below.drew ?_ | refine below_drewN ?_ _ | refine bset ?_ (by simp <;> omega) _ | refine bal ?_ _)
  have HH := Lib.hid (And.intro (show 1 ≤ ins ∧ ins ≤ regs ∧ regs ≤ 128 by omega) (show code.length ≤ 16384 ∧ 1 ≤ outs.length ∧ outs.length ≤ 128 by omega))
  go_enter Tryz.func61, Tryz.ntmps61
  go_wp2
  refine wp_name fun w0 hW0 => ?_
  have p0 : w0.cell? ⟨w.heap.size, 0, none⟩ = some (.int .i64 ins) := by rw [hW0]; exact (by first | assumption | exact cell_new (by with_reducible first | rfl | (simp; done) | (simp; omega)) rfl | (repeat (first | assumption | exact cell_new (by with_reducible first | rfl | (simp; done) | (simp; omega)) rfl | refine cell_alloc ?_ _ | refine cell_drew ?_ | refine cell_drewN ?_ _ | refine cell_far ?_ (by simp) _ | (refine cell_far ?_ (by simp <;> omega) _))) | simp [go_sem, *])
  have zp0 := cell_lt p0
  have p1 : w0.cell? ⟨w.heap.size, 1, none⟩ = some (.int .i64 regs) := by rw [hW0]; exact (by first | assumption | exact cell_new (by with_reducible first | rfl | (simp; done) | (simp; omega)) rfl | (repeat (first | assumption | exact cell_new (by with_reducible first | rfl | (simp; done) | (simp; omega)) rfl | refine cell_alloc ?_ _ | refine cell_drew ?_ | refine cell_drewN ?_ _ | refine cell_far ?_ (by simp) _ | (refine cell_far ?_ (by simp <;> omega) _))) | simp [go_sem, *])
  have p2 : w0.cell? ⟨w.heap.size, 2, none⟩ = some (.slice ca code.length cc) := by rw [hW0]; exact (by first | assumption | exact cell_new (by with_reducible first | rfl | (simp; done) | (simp; omega)) rfl | (repeat (first | assumption | exact cell_new (by with_reducible first | rfl | (simp; done) | (simp; omega)) rfl | refine cell_alloc ?_ _ | refine cell_drew ?_ | refine cell_drewN ?_ _ | refine cell_far ?_ (by simp) _ | (refine cell_far ?_ (by simp <;> omega) _))) | simp [go_sem, *])
  have p3 : w0.cell? ⟨w.heap.size, 3, none⟩ = some (.slice oa outs.length oc) := by rw [hW0]; exact (by first | assumption | exact cell_new (by with_reducible first | rfl | (simp; done) | (simp; omega)) rfl | (repeat (first | assumption | exact cell_new (by with_reducible first | rfl | (simp; done) | (simp; omega)) rfl | refine cell_alloc ?_ _ | refine cell_drew ?_ | refine cell_drewN ?_ _ | refine cell_far ?_ (by simp) _ | (refine cell_far ?_ (by simp <;> omega) _))) | simp [go_sem, *])
  have hB : Below w.heap.size w w0 := by rw [hW0]; repeat (first | exact Below.refl _ _ | exact hB | refine Below.drew ?_ | refine below_drewN ?_ _ | refine bset ?_ (by simp <;> omega) _ | refine bal ?_ _)
  have hz : w.heap.size ≤ w0.heap.size := hB.size
  clear hW0
  clear h1 h2 h3 h4 h5 h6
  have HF := Lib.hid (show ∀ W, Below w0.heap.size w0 W → W.cell? ⟨w.heap.size, 1, none⟩ = some (.int .i64 regs) ∧ W.cell? ⟨w.heap.size, 2, none⟩ = some (.slice ca code.length cc) ∧ W.cell? ⟨w.heap.size, 3, none⟩ = some (.slice oa outs.length oc) from fun W h => ⟨bkeep h p1, bkeep h p2, bkeep h p3⟩)
  clear p0 p1 p2 p3
  go_loopw [4] (fun x wr => ∃ k : Nat, k ≤ outs.length ∧ x = .int .i64 k ∧ Below w0.heap.size w0 wr ∧ Hid (∀ j, j < k → 0 ≤ outs.getD j 0 ∧ outs.getD j 0 < regs)) (fun x _ => outs.length - (intOf x).toNat)
  case atStart => exact ⟨0, Nat.zero_le _, rfl, Below.refl _ _, Lib.hid (fun j hj => by omega)⟩
  case round =>
    obtain ⟨k, hk, rfl, hBr, hall⟩ := hrel
    have hk8 : outs.length ≤ 128 := HH.out.2.2.2
    obtain ⟨p1, p2, p3⟩ := HF.out wr hBr
    have zp := cell_lt p1
    have hBB := bthen hB hBr
    by_cases hlt : k < outs.length
    · have hltI : (k : Int) < (outs.length : Int) := by omega
      rcases ho.keep hBB with h0 | ⟨b, off, rfl, hcap, hcell⟩
      · rw [h0] at hlt; simp at hlt
      have q0 := hcell k hlt
      have HK := Lib.hid (show ∀ v, v = outs.getD k 0 → ¬ (0 ≤ v ∧ v < regs) → ¬ ProgOk ins regs code outs from fun v hv h hp => h (by rw [hv]; exact hp.os k hlt))
      have HS := Lib.hid (show ∀ v, v = outs.getD k 0 → (0 ≤ v ∧ v < regs) → ∀ j, j < k + 1 → 0 ≤ outs.getD j 0 ∧ outs.getD j 0 < regs from fun v hv h j hj => by
        by_cases e : j = k
        · subst e; rw [← hv]; exact h
        · exact hall.out j (by omega))
      obtain ⟨r, hr⟩ : ∃ r, r = outs.getD k 0 := ⟨_, rfl⟩
      rw [← hr] at q0
      have HR := Lib.hid hr
      clear hr hcell
      by_cases r1 : r < 0
      · have HM := Lib.hid (HK.out r HR.out (by omega))
        have hq1 : decide (r < 0) = true := by simp; omega
        go_wp2
        go_quiet (fail)
        go_wp2
        go_ret2
        refine rck_no HM.out ?_
        repeat (first | exact Below.refl _ _ | exact hBB | refine Below.drew ?_ | refine below_drewN ?_ _ | refine bset ?_ (by simp <;> omega) _ | refine bal ?_ _)
      by_cases r2 : regs ≤ r
      · have HM := Lib.hid (HK.out r HR.out (by omega))
        have hq1 : decide (r < 0) = false := by simp; omega
        have hq2 : decide (regs ≤ r) = true := by simp; omega
        go_wp2
        go_quiet (fail)
        go_wp2
        go_ret2
        refine rck_no HM.out ?_
        repeat (first | exact Below.refl _ _ | exact hBB | refine Below.drew ?_ | refine below_drewN ?_ _ | refine bset ?_ (by simp <;> omega) _ | refine bal ?_ _)
      have hq1 : decide (r < 0) = false := by simp; omega
      have hq2 : decide (regs ≤ r) = false := by simp; omega
      go_wp2
      go_quiet (fail)
      go_wp2
      exact ⟨⟨k + 1, by omega, by go_num, by repeat (first | exact Below.refl _ _ | exact hBr | refine Below.drew ?_ | refine below_drewN ?_ _ | refine bset ?_ (by simp <;> omega) _ | refine bal ?_ _), Lib.hid (HS.out r HR.out (by omega))⟩, by simp [intOf]; omega⟩
    · obtain rfl : k = outs.length := by omega
      have HO := Lib.hid hall.out
      clear hall hlt hk
      have hBR := hBr
      go_wp2
      clear p1 p2 p3
      go_loopw [5] (fun x wi => ∃ k : Nat, k ≤ code.length ∧ x = .int .i64 k ∧ Below w0.heap.size w0 wi ∧ Hid (∀ j, j < k → mayB (code.getD j default).op (code.getD j default).to (code.getD j default).a (code.getD j default).b (code.getD j default).c regs = true)) (fun x _ => code.length - (intOf x).toNat)
      case atStart => exact ⟨0, Nat.zero_le _, rfl, hBR, Lib.hid (fun j hj => by omega)⟩
      case round =>
        rename World => wi
        obtain ⟨k, hk, rfl, hBi, hall⟩ := hrel
        have hk9 : code.length ≤ 16384 := HH.out.2.1
        have hBB := bthen hB hBi
        obtain ⟨p1, p2, p3⟩ := HF.out wi hBi
        have zp := cell_lt p1
        by_cases hlt : k < code.length
        · have hltI : (k : Int) < (code.length : Int) := by omega
          rcases hc.keep hBB with h0 | ⟨b, off, rfl, hcap, hcell⟩
          · rw [h0] at hlt; simp at hlt
          obtain ⟨q0, q1, q2, q3, q4⟩ := hcell k hlt
          have HK := Lib.hid (show ∀ i : Ins, i = code.getD k default → mayB i.op i.to i.a i.b i.c regs = false → ¬ ProgOk ins regs code outs from fun i hi h hp => by
            have := hp.cs k hlt
            rw [← hi, h] at this; cases this)
          have HS := Lib.hid (show ∀ i : Ins, i = code.getD k default → mayB i.op i.to i.a i.b i.c regs = true → ∀ j, j < k + 1 → mayB (code.getD j default).op (code.getD j default).to (code.getD j default).a (code.getD j default).b (code.getD j default).c regs = true from fun i hi h j hj => by
            by_cases e : j = k
            · subst e; rw [← hi]; exact h
            · exact hall.out j (by omega))
          obtain ⟨i, hi⟩ : ∃ i, i = code.getD k default := ⟨_, rfl⟩
          rw [← hi] at q0 q1 q2 q3 q4
          have HI := Lib.hid hi
          clear hi hcell
          obtain ⟨op, t, ia, ib, ic⟩ := i
          dsimp only at q0 q1 q2 q3 q4
          have hmc := fun W => rmay_c op t ia ib ic regs W
          have hBc := Below.refl wi.heap.size wi
          have HQ := Lib.hid (show ∀ W, Below wi.heap.size wi W → W.cell? ⟨w.heap.size, 1, none⟩ = some (.int .i64 regs) ∧ W.cell? ⟨w.heap.size, 2, none⟩ = some (.slice (some ⟨b, off, none⟩) code.length cc) ∧ W.cell? ⟨b, off + k * 5, none⟩ = some (.int .i64 op) ∧ W.cell? ⟨b, off + k * 5 + 1, none⟩ = some (.int .i64 t) ∧ W.cell? ⟨b, off + k * 5 + 2, none⟩ = some (.int .i64 ia) ∧ W.cell? ⟨b, off + k * 5 + 3, none⟩ = some (.int .i64 ib) ∧ W.cell? ⟨b, off + k * 5 + 4, none⟩ = some (.int .i64 ic) from fun W h => ⟨bkeep h p1, bkeep h p2, bkeep h q0, bkeep h q1, bkeep h q2, bkeep h q3, bkeep h q4⟩)
          obtain ⟨mb, hmb⟩ : ∃ mb, mayB op t ia ib ic regs = mb := ⟨_, rfl⟩
          rw [hmb] at hmc
          have HMB := Lib.hid hmb
          clear hmb
          go_wp2
          go_region_held3 (fun w' => w'.cell? ⟨w.heap.size, 1, none⟩ = some (.int .i64 regs) ∧ w'.cell? ⟨w.heap.size, 2, none⟩ = some (.slice (some ⟨b, off, none⟩) code.length cc) ∧ w'.cell? ⟨b, off + k * 5, none⟩ = some (.int .i64 op) ∧ w'.cell? ⟨b, off + k * 5 + 1, none⟩ = some (.int .i64 t) ∧ w'.cell? ⟨b, off + k * 5 + 2, none⟩ = some (.int .i64 ia) ∧ w'.cell? ⟨b, off + k * 5 + 3, none⟩ = some (.int .i64 ib) ∧ w'.cell? ⟨b, off + k * 5 + 4, none⟩ = some (.int .i64 ic))
            (first | (refine HQ.out _ ?_; (repeat (first | exact Below.refl _ _ | exact hBc | refine Below.drew ?_ | refine below_drewN ?_ _ | refine bset ?_ (by simp <;> omega) _ | refine bal ?_ _)); done) | fail)
            (first
              | (go_at_call 106; refine (hmc _).mono ?_; rintro e w5 ⟨rfl, hb5⟩; have hB5 : Below wi.heap.size wi w5 := bthen (by repeat (first | exact Below.refl _ _ | exact hBc | refine Below.drew ?_ | refine below_drewN ?_ _ | refine bset ?_ (by simp <;> omega) _ | refine bal ?_ _)) hb5; clear hBc; have hBc := hB5)
              | fail)
          cases mb with
          | true =>
            have HSM := Lib.hid (HS.out _ HI.out HMB.out)
            go_wp2
            exact ⟨⟨k + 1, by omega, by go_num, bthen hBi hBc, HSM⟩, by simp [intOf]; omega⟩
          | false =>
            have HM := Lib.hid (HK.out _ HI.out HMB.out)
            have hBz := bthen hBB hBc
            go_wp2
            go_ret2
            refine rck_no HM.out ?_
            repeat (first | exact Below.refl _ _ | exact hBz | refine Below.drew ?_ | refine below_drewN ?_ _ | refine bset ?_ (by simp <;> omega) _ | refine bal ?_ _)
        · obtain rfl : k = code.length := by omega
          have HM := Lib.hid (show ProgOk ins regs code outs from ⟨HH.out.1.1, HH.out.1.2.1, HH.out.1.2.2, HH.out.2.1, HH.out.2.2.1, HH.out.2.2.2, HO.out, hall.out⟩)
          go_wp2
          go_ret2
          exact rck_yes HM.out hBB
/-- may a program be? -/
theorem rright_c (ins regs : Int) (ca oa : Option Addr) (cc oc : Nat) (code : List Ins) (outs : List Int) (w : World) (hc : InsV w ca cc code) (ho : IntsV w oa oc outs) :
    Calls Tryz.prog 15 #[.agg #[.int .i64 ins, .int .i64 regs, .slice ca code.length cc, .slice oa outs.length oc]] w (RightP ins regs code outs w) := by
  have kc := fun W (h : Below w.heap.size w W) => rcheck_c ins regs ca oa cc oc code outs W (hc.keep h) (ho.keep h)
  clear hc ho
  have hB := Below.refl w.heap.size w
  go_enter Tryz.func15, Tryz.ntmps15
  go_wp2_with fail
  refine (kc _ (by repeat (first | exact Below.refl _ _ | exact hB | refine Below.drew ?_ | refine below_drewN ?_ _ | refine bset ?_ (by simp <;> omega) _ | refine bal ?_ _))).mono ?_
  rintro e w1 ⟨r, b, rfl, hb, hb1⟩
  have HBI := Lib.hid hb
  have hB1 : Below w.heap.size w w1 := bthen (by repeat (first | exact Below.refl _ _ | exact hB | refine Below.drew ?_ | refine below_drewN ?_ _ | refine bset ?_ (by simp <;> omega) _ | refine bal ?_ _)) hb1
  clear kc hb
  cases b with
  | true =>
    have HM := Lib.hid (show ¬ ProgOk ins regs code outs from fun h => by have := HBI.out.2 h; cases this)
    go_wp2
    go_ret
    exact rri_no HM.out hB1
  | false =>
    have HM := Lib.hid (HBI.out.1 rfl)
    go_wp2
    go_ret
    exact rri_yes HM.out hB1
end Go.Proofs.YtannhpadoooedaaGreatDoor

