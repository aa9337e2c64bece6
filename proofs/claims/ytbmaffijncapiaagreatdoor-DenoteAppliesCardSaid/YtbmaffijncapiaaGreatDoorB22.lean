/- Texts of this seat, laid together: DnL. What each theorem proves, and under which conditions, its statement says. -/
import Derived.Test.YtbmaffijncapiaaGreatDoorB21
set_option maxRecDepth 100000
set_option maxHeartbeats 32000000
set_option linter.unusedVariables false
set_option linter.unusedSimpArgs false
namespace Go.Proofs.YtbmaffijncapiaaGreatDoor
open Go.ChangeShapes Go.WideShapes Go.ChangeAt Go.RowKit
section
open Num
attribute [local go_sem ↓] Go.wp_at_zero Go.wp_at_succ
def comStep (d : Int) (x : Rat) : Int := d * ((x.den : Int) / gcdI d (x.den : Int))
def comD (L : List Rat) : Int := L.foldl comStep 1
theorem comD_snoc {L : List Rat} {k : Nat} (h : k < L.length) : comD (L.take (k + 1)) = comStep (comD (L.take k)) (L.getD k 0) := by
 have e : L.take (k + 1) = L.take k ++ [L.getD k 0] := by rw [List.take_succ_eq_append_getElem h]; simp [h]
 rw [e, comD, List.foldl_append]; rfl
theorem gcdI_pos {x y : Int} (h : y ≠ 0) : 0 < gcdI x y := by
 unfold gcdI
 have : 0 < Nat.gcd x.natAbs y.natAbs := Nat.gcd_pos_of_pos_right _ (by omega)
 omega
theorem gcdI_dvd (x y : Int) : gcdI x y ∣ y := by
 unfold gcdI
 exact Int.ofNat_dvd_left.2 (Nat.gcd_dvd_right _ _)
theorem comStep_pos {d : Int} {x : Rat} (h : 0 < d) : 0 < comStep d x := by
 have h1 := den_pos x
 have h2 : 0 < gcdI d (x.den : Int) := gcdI_pos (by omega)
 have h3 := gcdI_dvd d (x.den : Int)
 exact Int.mul_pos h (Int.ediv_pos_of_pos_of_dvd (by omega) (by omega) h3)
theorem bd_ediv {k : Nat} {x : Int} (h : Bd k x) (c : Int) : Bd k (x / c) := Nat.lt_of_le_of_lt (Int.natAbs_ediv_le_natAbs x c) h
theorem comD_bd {L : List Rat} {k : Nat} (hb : ∀ j, j < L.length → BdQ k (L.getD j 0)) : ∀ n, n ≤ L.length → 0 < comD (L.take n) ∧ Bd (k * n + 1) (comD (L.take n)) := by
 intro n
 induction n with
 | zero => intro _; exact ⟨by simp [comD], by unfold Bd; simp [comD]⟩
 | succ n ih =>
  intro h
  obtain ⟨h1, h2⟩ := ih (by omega)
  rw [comD_snoc (by omega)]
  refine ⟨comStep_pos h1, ?_⟩
  have h3 : Bd k ((L.getD n 0).den : Int) := (hb n (by omega)).2
  exact (Bd.mul h2 (bd_ediv h3 (gcdI (comD (L.take n)) ((L.getD n 0).den : Int)))).mono (by rw [Nat.mul_succ]; omega)
theorem binds_data (i : Nat) : Region.binds .any ⟨i, .data⟩ = true := rfl
theorem binds_chain (i : Nat) : Region.binds .any ⟨i, .chain⟩ = true := rfl
theorem binds_gc (i : Nat) (d : Departure) : Region.binds .any ⟨i, .gcOnly d⟩ = false := rfl
theorem binds_phase (i : Nat) : Region.binds .any ⟨i, .phase⟩ = true := rfl
theorem VarI.putFar {ub p : Nat} {m z : Int} {W : World} (h : VarI ub m W) (k : VarI p z W) (hne : ub ≠ p) (u v : Value) : VarI ub m ((W.setCell ⟨p, 0, none⟩ u).setCell ⟨p, 1, none⟩ v) := by
 obtain ⟨ht, n, a, ln, c, h0, h1, f0, f1, hi⟩ := h
 obtain ⟨_, n', a', ln', c', r0, r1, _, _, _⟩ := k
 exact ⟨by rw [typ_set, typ_set]; exact ht, n, a, ln, c, put2_keep h0 hne, put2_keep h1 hne, put2_f f0, put2_f f1, hi.put2 r0 r1 _ _⟩
def puts (a : Act) : List (Nat × Value) → Act
 | [] => a
 | (i, v) :: r => puts (a.put (some i) v) r
theorem puts_nil (a : Act) : puts a [] = a := rfl
theorem puts_cons (a : Act) (i : Nat) (v : Value) (r : List (Nat × Value)) : puts a ((i, v) :: r) = puts (a.put (some i) v) r := rfl
attribute [irreducible] puts
theorem wp_named {P : Program} {c : Code} {Q : Exit → Act → World → Prop} {a : Act} {w : World} (h : ∀ A, A = a → c.wp P Q A w) : c.wp P Q a w := h a rfl
def IntBlk (base : Nat) (w : World) (v : Value) (n : Nat) (f : Nat → Int) : Prop := ∃ B c, v = .slice (some ⟨B, 0, none⟩) n c ∧ n ≤ c ∧ c ≤ maxLen ∧ base ≤ B ∧ typOf w B = some 50 ∧ IntsF IsInt w B 0 n f
theorem OwnF.intBlk {w0 wr : World} {v : Value} {n : Nat} {f : Nat → Int} (h : OwnF IsInt 50 w0 wr v n f) (hn : 0 < n) : IntBlk w0.heap.size wr v n f := by
 obtain ⟨a, c, e, hc, hm, h2⟩ := h.view
 rcases h2 with h2 | ⟨g, rfl, hg, hi⟩
 · omega
 · obtain ⟨xs, hO, _⟩ := h
   exact ⟨g, c, e, hc, hm, hg, own_typ hO (by rw [e]; rfl), hi⟩
theorem IntBlk.rebase {base base' : Nat} {w : World} {v : Value} {n : Nat} {f : Nat → Int} (h : IntBlk base w v n f) (hb : base' ≤ base) : IntBlk base' w v n f := by
 obtain ⟨B, c, h1, h2, h3, h4, h5⟩ := h
 exact ⟨B, c, h1, h2, h3, Nat.le_trans hb h4, h5⟩
theorem IntBlk.keep {base : Nat} {w w' : World} {v : Value} {n : Nat} {f : Nat → Int} (h : IntBlk base w v n f) (k : Below w.heap.size w w') : IntBlk base w' v n f := by
 obtain ⟨B, c, h1, h2, h3, h4, h5, h6⟩ := h
 refine ⟨B, c, h1, h2, h3, h4, typ_keep h5 k, fun j hj => ?_⟩
 obtain ⟨nb, ad, ln, cp, k1, k2, k3⟩ := h6 j hj
 exact ⟨nb, ad, ln, cp, bkeep k k1, bkeep k k2, k3.keep k⟩
theorem IntBlk.put2 {base b : Nat} {w : World} {v : Value} {n : Nat} {f : Nat → Int} {m : Bool} {a : Option Addr} {l c : Nat} (h : IntBlk base w v n f) (r0 : w.cell? ⟨b, 0, none⟩ = some (.bool m)) (r1 : w.cell? ⟨b, 1, none⟩ = some (.slice a l c)) (hb : b < base) (u0 u1 : Value) : IntBlk base ((w.setCell ⟨b, 0, none⟩ u0).setCell ⟨b, 1, none⟩ u1) v n f := by
 obtain ⟨B, cB, h1, h2, h3, h4, h5, h6⟩ := h
 refine ⟨B, cB, h1, h2, h3, h4, by rw [typ_set, typ_set]; exact h5, fun k hk => ?_⟩
 obtain ⟨nb, ad, ln, cp, k1, k2, k3⟩ := h6 k hk
 exact ⟨nb, ad, ln, cp, put2_keep k1 (by omega), put2_keep k2 (by omega), k3.put2 r0 r1 _ _⟩
section
variable {ls : Array Bool} {i j k : Nat} {W W2 : World}
theorem od {F : Prop} (H : Hid (Done ls j → F)) (hne : i ≠ j := by decide) : Done (ls.setIfInBounds i true) j → F := fun hh => H.out (hh.old hne)
theorem odK {u : Value} {z : Int} (H : Hid (Done ls j → IsInt W u z)) (hb : Below W.heap.size W W2) (hne : i ≠ j := by decide) : Done (ls.setIfInBounds i true) j → IsInt W2 u z := fun hh => (H.out (hh.old hne)).keep hb
theorem odS (H : Hid (Done ls j → Done ls k)) (hne : i ≠ j := by decide) : Done (ls.setIfInBounds i true) j → Done (ls.setIfInBounds i true) k := fun hh => (H.out (hh.old hne)).set
theorem odN {P : Prop} (h : Done ls j → Done ls k → P) (h1 : i ≠ j := by decide) (h2 : i ≠ k := by decide) : Done (ls.setIfInBounds i true) j → Done (ls.setIfInBounds i true) k → P := fun a b => h (a.old h1) (b.old h2)
theorem odT {t : Value} {Z : Int} (H : Hid (Done ls j → ∃ u v, t = .tuple #[u, v, .int .i64 0] ∧ IsInt W u Z ∧ ∃ z, IsInt W v z)) (hb : Below W.heap.size W W2) (hne : i ≠ j := by decide) : Done (ls.setIfInBounds i true) j → ∃ u v, t = .tuple #[u, v, .int .i64 0] ∧ IsInt W2 u Z ∧ ∃ z, IsInt W2 v z := fun hh => by
 obtain ⟨u, v, e, q1, z, q2⟩ := H.out (hh.old hne); exact ⟨u, v, e, q1.keep hb, z, q2.keep hb⟩
theorem odE {u : Value} (H : Hid (Done ls j → ∃ z, IsInt W u z)) (hb : Below W.heap.size W W2) (hne : i ≠ j := by decide) : Done (ls.setIfInBounds i true) j → ∃ z, IsInt W2 u z := fun hh => by
 obtain ⟨z, q⟩ := H.out (hh.old hne); exact ⟨z, q.keep hb⟩
theorem odP {t : Value} {Z : Int} {n0 m : Nat} (H : Hid (Done ls j → ∃ b z, t = .pointer (some ⟨b, 0, none⟩) ∧ n0 ≤ b ∧ VarI b z W ∧ (Done ls m → z = Z))) (hb : Below W.heap.size W W2) (hne : i ≠ j := by decide) (hm : i ≠ m := by decide) : Done (ls.setIfInBounds i true) j → ∃ b z, t = .pointer (some ⟨b, 0, none⟩) ∧ n0 ≤ b ∧ VarI b z W2 ∧ (Done (ls.setIfInBounds i true) m → z = Z) := fun hh => by
 obtain ⟨b, z, e, q0, q1, q2⟩ := H.out (hh.old hne); exact ⟨b, z, e, q0, q1.keep hb, fun hk => q2 (hk.old hm)⟩
theorem odp {t : Value} {Z : Int} {n0 m : Nat} (H : Hid (Done ls j → ∃ b z, t = .pointer (some ⟨b, 0, none⟩) ∧ n0 ≤ b ∧ VarI b z W ∧ (Done ls m → z = Z))) (hne : i ≠ j := by decide) (hm : i ≠ m := by decide) : Done (ls.setIfInBounds i true) j → ∃ b z, t = .pointer (some ⟨b, 0, none⟩) ∧ n0 ≤ b ∧ VarI b z W ∧ (Done (ls.setIfInBounds i true) m → z = Z) := odP H (Below.refl _ _) hne hm
theorem odV {t : Value} {n0 : Nat} (H : Hid (Done ls j → ∃ b z, t = .pointer (some ⟨b, 0, none⟩) ∧ n0 ≤ b ∧ VarI b z W)) (hb : Below W.heap.size W W2) (hne : i ≠ j := by decide) : Done (ls.setIfInBounds i true) j → ∃ b z, t = .pointer (some ⟨b, 0, none⟩) ∧ n0 ≤ b ∧ VarI b z W2 := fun hh => by
 obtain ⟨b, z, e, q0, q1⟩ := H.out (hh.old hne); exact ⟨b, z, e, q0, q1.keep hb⟩
theorem putsE {a b : Act} (h : a = b := by simp only [puts_cons, puts_nil, Act.put, List.setIfInBounds_toArray, List.set_cons_zero, List.set_cons_succ]) : a = b := h
end
theorem common_c (v : Value) (L : List Rat) (k : Nat) (w : World) (hv : FRow 0 w v L) (bL : ∀ j, j < L.length → BdQ k (L.getD j 0)) (hnp : 0 < L.length) (hl : L.length ≤ 1000000) (hk : k * (L.length + 1) + 1 ≤ 1000000000) :
 Calls Tryz.prog 108 #[v] w fun e w' => (∃ u x, e = .returned (.tuple #[u, x]) ∧ IsInt w' x (comD L) ∧ IntBlk w.heap.size w' u L.length (fun i => (L.getD i 0).num * (comD L / ((L.getD i 0).den : Int)))) ∧ Below w.heap.size w w' := by
 have OC := Lib.hid (fun V => of_c 1 V (by omega) (by omega))
 have HV := Lib.hid hv
 have HBL := Lib.hid bL
 have HCB := Lib.hid (comD_bd bL)
 have HCS := Lib.hid (fun k (hk : k < L.length) => comD_snoc hk)
 obtain ⟨a, c, rfl⟩ := FrRow.ex hv
 obtain ⟨n, hn⟩ : ∃ n, L.length = n := ⟨_, rfl⟩
 have HN := Lib.hid hn
 rw [hn] at hl hk hnp HCB HCS ⊢
 clear hv bL hn
 have hB := Below.refl w.heap.size w
 go_enter Tryz.func108, Tryz.ntmps108
 go_wp2_with fail
 (with_reducible refine (OC.out _).mono ?_)
 rintro e w1 ⟨⟨u1, rfl, hu1⟩, hb1⟩
 have hB1 : Below w.heap.size w w1 := bthen bZ hb1
 have HRB := Lib.hid (show VarI w.heap.size 0 w1 from VarI.keep (show VarI w.heap.size 0 (w.alloc (.cells #[.bool false, .slice none 0 0] 50)) from ⟨typ_fresh rfl, false, none, 0, 0, cell_new rfl rfl, cell_new rfl rfl, by simp [go_sem], by simp [go_sem], isInt_zero _⟩) hb1)
 have HU1 := Lib.hid hu1
 obtain ⟨n1, a1, l1, c1, rfl⟩ := hu1.lit
 clear hu1 hb1 OC hB
 go_wp2
 have hBr1 := Below.refl w1.heap.size w1
 refine wp_name fun w2 hW2 => ?_
 have hb12 : Below w1.heap.size w1 w2 := by rw [hW2]; repeat (first|exact bzR _ _|exact hBr1|refine bzD ?_|refine bzN ?_|refine bzS ?_|refine bzA ?_)
 have HD2 := Lib.hid (show VarI w1.heap.size 1 w2 from by rw [hW2]; exact ⟨typ_fresh rfl, n1, a1, l1, c1, cell_new rfl rfl, cell_new rfl rfl, by simp [go_sem], by simp [go_sem], HU1.out.keep (bal (Below.refl _ _) _)⟩)
 have HR2 := Lib.hid (HRB.out.keep hb12)
 have hB2 := bthen hB1 hb12
 have hdb : w.heap.size < w1.heap.size := by have := HRB.out; obtain ⟨ht, _⟩ := this; exact typ_lt ht
 have hdl : w1.heap.size < w2.heap.size := by obtain ⟨ht, _⟩ := HD2.out; exact typ_lt ht
 clear hW2 HU1 HRB hb12 hB1
 obtain ⟨db, hdbE⟩ : ∃ db, w1.heap.size = db := ⟨_, rfl⟩
 rw [hdbE] at HD2 hdb hdl ⊢
 clear hBr1 hdbE w1
 go_loopw [19] (fun x wr => ∃ j : Nat, j ≤ n ∧ x = .int .i64 j ∧ Below w.heap.size w wr ∧ db < wr.heap.size ∧ Hid (VarI db (comD (L.take j)) wr ∧ VarI w.heap.size 0 wr)) (fun x _ => n - (intOf x).toNat)
 case atStart => exact ⟨0, Nat.zero_le _, rfl, hB2, hdl, Lib.hid ⟨HD2.out, HR2.out⟩⟩
 case round =>
  obtain ⟨j, hj, rfl, hBr, hdr, hE⟩ := hrel
  by_cases hlt : j < n
  · have hltI : (j : Int) < (n : Int) := by omega
    have hvr := HV.out.keep hBr
    rw [HN.out] at hvr
    obtain ⟨b, off, rfl, -, g1, y1, s1, t1, g2, y2, s2, t2, q0, q1, q2, q3, qI⟩ := FrRow.at hvr hlt
    have zb := cell_lt q0
    have HQ := Lib.hid qI
    -- REGION5
    go_wp2
    refine wp_name fun w5 hW5 => ?_
    have hBr0 := Below.refl wr.heap.size wr
    have hb5 : Below wr.heap.size wr w5 := by rw [hW5]; repeat (first|exact bzR _ _|exact hBr0|refine bzD ?_|refine bzN ?_|refine bzS ?_|refine bzA ?_)
    have X0 : w5.cell? ⟨wr.heap.size, 0, none⟩ = some (.bool g1) ∧ w5.cell? ⟨wr.heap.size, 1, none⟩ = some (.slice y1 s1 t1) ∧ w5.cell? ⟨wr.heap.size, 2, none⟩ = some (.bool g2) ∧ w5.cell? ⟨wr.heap.size, 3, none⟩ = some (.slice y2 s2 t2) := by rw [hW5]; simp [go_sem]
    obtain ⟨x0, x1, x2, x3⟩ := X0
    have HQ5 := Lib.hid (HQ.out.keep hb5)
    have HD5 := Lib.hid (hE.out.1.keep hb5)
    have HR5 := Lib.hid (hE.out.2.keep hb5)
    have hB5 := bthen hBr hb5
    obtain ⟨-, dn, da, dl, dc, d0, d1, d0f, d1f, dI⟩ := HD5.out
    have HDI := Lib.hid dI
    have HXC := Lib.hid (fun V (q : Below w5.heap.size w5 V) => And.intro (bkeep q x0) (And.intro (bkeep q x1) (And.intro (bkeep q x2) (And.intro (bkeep q x3) (And.intro (bkeep q d0) (bkeep q d1))))))
    obtain ⟨X, hX⟩ : ∃ X, Value.agg #[.bool g1, .slice y1 s1 t1, .bool g2, .slice y2 s2 t2] = X := ⟨_, rfl⟩
    obtain ⟨Y, hY⟩ : ∃ Y, Value.agg #[.bool dn, .slice da dl dc] = Y := ⟨_, rfl⟩
    obtain ⟨Z, hZ⟩ : ∃ Z, ((L.getD j 0).den : Int) / gcdI (comD (L.take j)) ((L.getD j 0).den : Int) = Z := ⟨_, rfl⟩
    have HXE := Lib.hid hX
    have HYE := Lib.hid hY
    have HZE := Lib.hid hZ
    have DC := Lib.hid (fun V (q : Below w5.heap.size w5 V) => pqDen_c _ (L.getD j 0) k V (HQ5.out.keep q) (HBL.out j (by rw [HN.out]; exact hlt)) (by have := Nat.le_mul_of_pos_right k (show 0 < n + 1 by omega); omega))
    have hbk : Bd (k * (n + 1) + 1) (comD (L.take j)) := (HCB.out j (by omega)).2.mono (by have := Nat.mul_le_mul_left k (show j ≤ n + 1 by omega); omega)
    have hbd : Bd (k * (n + 1) + 1) ((L.getD j 0).den : Int) := (HBL.out j (by rw [HN.out]; exact hlt)).2.mono (by have := Nat.le_mul_of_pos_right k (show 0 < n + 1 by omega); omega)
    have GC := Lib.hid (fun u V (q : Below w5.heap.size w5 V) (hu : IsInt V u ((L.getD j 0).den : Int)) => gcdI_c _ u _ _ (k * (n + 1) + 1) V (HDI.out.keep q) hu hbk hbd (by omega))
    have MC := Lib.hid (fun u v V (hu : IsInt V u ((L.getD j 0).den : Int)) (hv : IsInt V v (gcdI (comD (L.take j)) ((L.getD j 0).den : Int))) => divmod_c u v _ _ (k * (n + 1) + 1) V hu hv hbd (gcdI_bd hbk hbd) (by omega) (by have := gcdI_pos (x := comD (L.take j)) (show ((L.getD j 0).den : Int) ≠ 0 by have := den_pos (L.getD j 0); omega); omega))
    rw [hZ] at MC
    have HBK := Lib.hid (And.intro hbk (show Bd (k * (n + 1) + 1) Z from by rw [← hZ]; exact bd_ediv hbd _))
    clear hbk hbd hX hY hZ d0 d1 x0 x1 x2 x3 hW5 qI q0 q1 q2 q3 dI d0f d1f
    have hBr5 := Below.refl w5.heap.size w5
    have hmx : (Tryz.prog).follows .mixedOrders = true := by kernel_rfl
    refine wp_named fun A hA => ?_
    refine wp_region_invs hmx (by kernel_rfl) (fun ls a W => ∃ t7 t8 t9 t23 t24 t25 t26 t27 t28 t29 t30 t31 t32 t33 : Value, a = puts A [(7, t7), (8, t8), (9, t9), (23, t23), (24, t24), (25, t25), (26, t26), (27, t27), (28, t28), (29, t29), (30, t30), (31, t31), (32, t32), (33, t33)] ∧ Below w5.heap.size w5 W ∧ (Done ls 0 → t24 = X) ∧ (Done ls 1 → IsInt W t25 ((L.getD j 0).den : Int)) ∧ (Done ls 2 → t26 = Y) ∧ (Done ls 3 → t27 = X) ∧ (Done ls 4 → IsInt W t28 ((L.getD j 0).den : Int)) ∧ (Done ls 5 → IsInt W t29 (gcdI (comD (L.take j)) ((L.getD j 0).den : Int))) ∧ (Done ls 6 → ∃ u v, t30 = .tuple #[u, v, .int .i64 0] ∧ IsInt W u Z ∧ ∃ z, IsInt W v z) ∧ (Done ls 7 → ∃ u v, t23 = .tuple #[u, v, .int .i64 0] ∧ IsInt W u Z ∧ ∃ z, IsInt W v z) ∧ (Done ls 8 → IsInt W t31 Z) ∧ (Done ls 9 → ∃ z, IsInt W t32 z) ∧ (Done ls 11 → ∃ b7 z, t7 = .pointer (some ⟨b7, 0, none⟩) ∧ w5.heap.size ≤ b7 ∧ VarI b7 z W ∧ (Done ls 13 → z = Z)) ∧ (Done ls 12 → ∃ b8 z, t8 = .pointer (some ⟨b8, 0, none⟩) ∧ w5.heap.size ≤ b8 ∧ VarI b8 z W) ∧ (Done ls 11 → Done ls 12 → t7 ≠ t8) ∧ (Done ls 13 → Done ls 11) ∧ (Done ls 14 → Done ls 12)) ?_ ?_ ?_
    · have nd : ∀ i, ¬ Done (Array.replicate 16 false) i := fun i h => by
       unfold Done at h
       simp [Array.getD] at h
      refine ⟨u7, u8, u9, u23, u24, u25, u26, u27, u28, u29, u30, u31, u32, u33, ?_, bZ, fun h => absurd h (nd _), fun h => absurd h (nd _), fun h => absurd h (nd _), fun h => absurd h (nd _), fun h => absurd h (nd _), fun h => absurd h (nd _), fun h => absurd h (nd _), fun h => absurd h (nd _), fun h => absurd h (nd _), fun h => absurd h (nd _), fun h => absurd h (nd _), fun h => absurd h (nd _), fun h => absurd h (nd _), fun h => absurd h (nd _), fun h => absurd h (nd _)⟩
      subst hA
      simp only [puts_cons, puts_nil, Act.put, List.setIfInBounds_toArray, List.set_cons_zero, List.set_cons_succ]
    · refine .cons ?_ (.cons ?_ (.cons ?_ (.cons ?_ (.cons ?_ (.cons ?_ (.cons ?_ (.cons ?_ (.cons ?_ (.cons ?_ (.cons ?_ (.cons ?_ (.cons ?_ (.cons ?_ (.cons ?_ (.cons ?_ .nil)))))))))))))))
      · intro ls a W hd hsz hnd hI K hK
        obtain ⟨t7, t8, t9, t23, t24, t25, t26, t27, t28, t29, t30, t31, t32, t33, rfl, hb, h0, h1, h2, h3, h4, h5, h6, h7, h8, h9, h11, h12, hne, hf13, hf14⟩ := hI
        have H0 := Lib.hid h0
        have H1 := Lib.hid h1
        have H2 := Lib.hid h2
        have H3 := Lib.hid h3
        have H4 := Lib.hid h4
        have H5 := Lib.hid h5
        have H6 := Lib.hid h6
        have H7 := Lib.hid h7
        have H8 := Lib.hid h8
        have H9 := Lib.hid h9
        have H11 := Lib.hid h11
        have H12 := Lib.hid h12
        have HF13 := Lib.hid hf13
        have HF14 := Lib.hid hf14
        clear hf13 hf14 h0 h1 h2 h3 h4 h5 h6 h7 h8 h9 h11 h12
        subst hA
        simp only [puts_cons, puts_nil, Act.put, List.setIfInBounds_toArray, List.set_cons_zero, List.set_cons_succ]
        simp only [List.mem_cons, List.not_mem_nil, or_false, forall_eq_or_imp, forall_eq, binds_data, binds_chain, binds_phase, binds_gc, Bool.false_eq_true, false_implies, forall_const, true_and, and_true] at hd
        have xc := HXC.out W hb
        obtain ⟨x0, x1, x2, x3, d0, d1⟩ := xc
        go_simp
        exact hK _ _ ⟨t7, t8, t9, t23, .agg #[.bool g1, .slice y1 s1 t1, .bool g2, .slice y2 s2 t2], t25, t26, t27, t28, t29, t30, t31, t32, t33, putsE, hb, fun _ => HXE.out, od H1, od H2, od H3, od H4, od H5, od H6, od H7, od H8, od H9, odp H11, od H12, odN hne, odS HF13, odS HF14⟩
      · intro ls a W hd hsz hnd hI K hK
        obtain ⟨t7, t8, t9, t23, t24, t25, t26, t27, t28, t29, t30, t31, t32, t33, rfl, hb, h0, h1, h2, h3, h4, h5, h6, h7, h8, h9, h11, h12, hne, hf13, hf14⟩ := hI
        have H0 := Lib.hid h0
        have H1 := Lib.hid h1
        have H2 := Lib.hid h2
        have H3 := Lib.hid h3
        have H4 := Lib.hid h4
        have H5 := Lib.hid h5
        have H6 := Lib.hid h6
        have H7 := Lib.hid h7
        have H8 := Lib.hid h8
        have H9 := Lib.hid h9
        have H11 := Lib.hid h11
        have H12 := Lib.hid h12
        have HF13 := Lib.hid hf13
        have HF14 := Lib.hid hf14
        clear hf13 hf14 h0 h1 h2 h3 h4 h5 h6 h7 h8 h9 h11 h12
        subst hA
        simp only [puts_cons, puts_nil, Act.put, List.setIfInBounds_toArray, List.set_cons_zero, List.set_cons_succ]
        simp only [List.mem_cons, List.not_mem_nil, or_false, forall_eq_or_imp, forall_eq, binds_data, binds_chain, binds_phase, binds_gc, Bool.false_eq_true, false_implies, forall_const, true_and, and_true] at hd
        have e24 := (H0.out hd).trans HXE.out.symm
        subst e24
        go_simp
        go_at_call 127
        (with_reducible refine (DC.out _ ?_).mono ?_); (repeat (first|exact bzR _ _|exact hb|refine bzD ?_|refine bzN ?_|refine bzS ?_|refine bzA ?_))
        rintro e W2 ⟨⟨u, rfl, hu⟩, hb2⟩
        have hb0 := Below.refl W.heap.size W
        have hbb : Below W.heap.size W W2 := bthen bZ hb2
        have hbc := hb.trans (hbb.mono hb.size)
        exact hK _ _ ⟨t7, t8, t9, t23, .agg #[.bool g1, .slice y1 s1 t1, .bool g2, .slice y2 s2 t2], u, t26, t27, t28, t29, t30, t31, t32, t33, putsE, hbc, od H0, fun _ => hu, od H2, od H3, odK H4 hbb, odK H5 hbb, odT H6 hbb, odT H7 hbb, odK H8 hbb, odE H9 hbb, odP H11 hbb, odV H12 hbb, odN hne, odS HF13, odS HF14⟩
      · intro ls a W hd hsz hnd hI K hK
        obtain ⟨t7, t8, t9, t23, t24, t25, t26, t27, t28, t29, t30, t31, t32, t33, rfl, hb, h0, h1, h2, h3, h4, h5, h6, h7, h8, h9, h11, h12, hne, hf13, hf14⟩ := hI
        have H0 := Lib.hid h0
        have H1 := Lib.hid h1
        have H2 := Lib.hid h2
        have H3 := Lib.hid h3
        have H4 := Lib.hid h4
        have H5 := Lib.hid h5
        have H6 := Lib.hid h6
        have H7 := Lib.hid h7
        have H8 := Lib.hid h8
        have H9 := Lib.hid h9
        have H11 := Lib.hid h11
        have H12 := Lib.hid h12
        have HF13 := Lib.hid hf13
        have HF14 := Lib.hid hf14
        clear hf13 hf14 h0 h1 h2 h3 h4 h5 h6 h7 h8 h9 h11 h12
        subst hA
        simp only [puts_cons, puts_nil, Act.put, List.setIfInBounds_toArray, List.set_cons_zero, List.set_cons_succ]
        simp only [List.mem_cons, List.not_mem_nil, or_false, forall_eq_or_imp, forall_eq, binds_data, binds_chain, binds_phase, binds_gc, Bool.false_eq_true, false_implies, forall_const, true_and, and_true] at hd
        have xc := HXC.out W hb
        obtain ⟨x0, x1, x2, x3, d0, d1⟩ := xc
        go_simp
        exact hK _ _ ⟨t7, t8, t9, t23, t24, t25, .agg #[.bool dn, .slice da dl dc], t27, t28, t29, t30, t31, t32, t33, putsE, hb, od H0, od H1, fun _ => HYE.out, od H3, od H4, od H5, od H6, od H7, od H8, od H9, odp H11, od H12, odN hne, odS HF13, odS HF14⟩
      · intro ls a W hd hsz hnd hI K hK
        obtain ⟨t7, t8, t9, t23, t24, t25, t26, t27, t28, t29, t30, t31, t32, t33, rfl, hb, h0, h1, h2, h3, h4, h5, h6, h7, h8, h9, h11, h12, hne, hf13, hf14⟩ := hI
        have H0 := Lib.hid h0
        have H1 := Lib.hid h1
        have H2 := Lib.hid h2
        have H3 := Lib.hid h3
        have H4 := Lib.hid h4
        have H5 := Lib.hid h5
        have H6 := Lib.hid h6
        have H7 := Lib.hid h7
        have H8 := Lib.hid h8
        have H9 := Lib.hid h9
        have H11 := Lib.hid h11
        have H12 := Lib.hid h12
        have HF13 := Lib.hid hf13
        have HF14 := Lib.hid hf14
        clear hf13 hf14 h0 h1 h2 h3 h4 h5 h6 h7 h8 h9 h11 h12
        subst hA
        simp only [puts_cons, puts_nil, Act.put, List.setIfInBounds_toArray, List.set_cons_zero, List.set_cons_succ]
        simp only [List.mem_cons, List.not_mem_nil, or_false, forall_eq_or_imp, forall_eq, binds_data, binds_chain, binds_phase, binds_gc, Bool.false_eq_true, false_implies, forall_const, true_and, and_true] at hd
        have xc := HXC.out W hb
        obtain ⟨x0, x1, x2, x3, d0, d1⟩ := xc
        go_simp
        exact hK _ _ ⟨t7, t8, t9, t23, t24, t25, t26, .agg #[.bool g1, .slice y1 s1 t1, .bool g2, .slice y2 s2 t2], t28, t29, t30, t31, t32, t33, putsE, hb, od H0, od H1, od H2, fun _ => HXE.out, od H4, od H5, od H6, od H7, od H8, od H9, odp H11, od H12, odN hne, odS HF13, odS HF14⟩
      · intro ls a W hd hsz hnd hI K hK
        obtain ⟨t7, t8, t9, t23, t24, t25, t26, t27, t28, t29, t30, t31, t32, t33, rfl, hb, h0, h1, h2, h3, h4, h5, h6, h7, h8, h9, h11, h12, hne, hf13, hf14⟩ := hI
        have H0 := Lib.hid h0
        have H1 := Lib.hid h1
        have H2 := Lib.hid h2
        have H3 := Lib.hid h3
        have H4 := Lib.hid h4
        have H5 := Lib.hid h5
        have H6 := Lib.hid h6
        have H7 := Lib.hid h7
        have H8 := Lib.hid h8
        have H9 := Lib.hid h9
        have H11 := Lib.hid h11
        have H12 := Lib.hid h12
        have HF13 := Lib.hid hf13
        have HF14 := Lib.hid hf14
        clear hf13 hf14 h0 h1 h2 h3 h4 h5 h6 h7 h8 h9 h11 h12
        subst hA
        simp only [puts_cons, puts_nil, Act.put, List.setIfInBounds_toArray, List.set_cons_zero, List.set_cons_succ]
        simp only [List.mem_cons, List.not_mem_nil, or_false, forall_eq_or_imp, forall_eq, binds_data, binds_chain, binds_phase, binds_gc, Bool.false_eq_true, false_implies, forall_const, true_and, and_true] at hd
        have e27 := (H3.out (by simp [hd])).trans HXE.out.symm
        subst e27
        go_simp
        go_at_call 127
        (with_reducible refine (DC.out _ ?_).mono ?_); (repeat (first|exact bzR _ _|exact hb|refine bzD ?_|refine bzN ?_|refine bzS ?_|refine bzA ?_))
        rintro e W2 ⟨⟨u, rfl, hu⟩, hb2⟩
        have hb0 := Below.refl W.heap.size W
        have hbb : Below W.heap.size W W2 := bthen bZ hb2
        have hbc := hb.trans (hbb.mono hb.size)
        exact hK _ _ ⟨t7, t8, t9, t23, t24, t25, t26, .agg #[.bool g1, .slice y1 s1 t1, .bool g2, .slice y2 s2 t2], u, t29, t30, t31, t32, t33, putsE, hbc, od H0, odK H1 hbb, od H2, od H3, fun _ => hu, odK H5 hbb, odT H6 hbb, odT H7 hbb, odK H8 hbb, odE H9 hbb, odP H11 hbb, odV H12 hbb, odN hne, odS HF13, odS HF14⟩
      · intro ls a W hd hsz hnd hI K hK
        obtain ⟨t7, t8, t9, t23, t24, t25, t26, t27, t28, t29, t30, t31, t32, t33, rfl, hb, h0, h1, h2, h3, h4, h5, h6, h7, h8, h9, h11, h12, hne, hf13, hf14⟩ := hI
        have H0 := Lib.hid h0
        have H1 := Lib.hid h1
        have H2 := Lib.hid h2
        have H3 := Lib.hid h3
        have H4 := Lib.hid h4
        have H5 := Lib.hid h5
        have H6 := Lib.hid h6
        have H7 := Lib.hid h7
        have H8 := Lib.hid h8
        have H9 := Lib.hid h9
        have H11 := Lib.hid h11
        have H12 := Lib.hid h12
        have HF13 := Lib.hid hf13
        have HF14 := Lib.hid hf14
        clear hf13 hf14 h0 h1 h2 h3 h4 h5 h6 h7 h8 h9 h11 h12
        subst hA
        simp only [puts_cons, puts_nil, Act.put, List.setIfInBounds_toArray, List.set_cons_zero, List.set_cons_succ]
        simp only [List.mem_cons, List.not_mem_nil, or_false, forall_eq_or_imp, forall_eq, binds_data, binds_chain, binds_phase, binds_gc, Bool.false_eq_true, false_implies, forall_const, true_and, and_true] at hd
        have e26 := (H2.out (by simp [hd])).trans HYE.out.symm
        subst e26
        have q28 := (H4.out (by simp [hd]))
        have hb0 := Below.refl W.heap.size W
        go_simp
        go_at_call 161
        (with_reducible refine (GC.out _ _ ?_ (q28.keep ?_)).mono ?_); (repeat (first|exact bzR _ _|exact hb|refine bzD ?_|refine bzN ?_|refine bzS ?_|refine bzA ?_)); (repeat (first|exact bzR _ _|exact hb0|refine bzD ?_|refine bzN ?_|refine bzS ?_|refine bzA ?_))
        rintro e W2 ⟨⟨u, rfl, hu⟩, hb2⟩
        have hbb : Below W.heap.size W W2 := bthen bZ hb2
        have hbc := hb.trans (hbb.mono hb.size)
        exact hK _ _ ⟨t7, t8, t9, t23, t24, t25, .agg #[.bool dn, .slice da dl dc], t27, t28, u, t30, t31, t32, t33, putsE, hbc, od H0, odK H1 hbb, od H2, od H3, odK H4 hbb, fun _ => hu, odT H6 hbb, odT H7 hbb, odK H8 hbb, odE H9 hbb, odP H11 hbb, odV H12 hbb, odN hne, odS HF13, odS HF14⟩
      · intro ls a W hd hsz hnd hI K hK
        obtain ⟨t7, t8, t9, t23, t24, t25, t26, t27, t28, t29, t30, t31, t32, t33, rfl, hb, h0, h1, h2, h3, h4, h5, h6, h7, h8, h9, h11, h12, hne, hf13, hf14⟩ := hI
        have H0 := Lib.hid h0
        have H1 := Lib.hid h1
        have H2 := Lib.hid h2
        have H3 := Lib.hid h3
        have H4 := Lib.hid h4
        have H5 := Lib.hid h5
        have H6 := Lib.hid h6
        have H7 := Lib.hid h7
        have H8 := Lib.hid h8
        have H9 := Lib.hid h9
        have H11 := Lib.hid h11
        have H12 := Lib.hid h12
        have HF13 := Lib.hid hf13
        have HF14 := Lib.hid hf14
        clear hf13 hf14 h0 h1 h2 h3 h4 h5 h6 h7 h8 h9 h11 h12
        subst hA
        simp only [puts_cons, puts_nil, Act.put, List.setIfInBounds_toArray, List.set_cons_zero, List.set_cons_succ]
        simp only [List.mem_cons, List.not_mem_nil, or_false, forall_eq_or_imp, forall_eq, binds_data, binds_chain, binds_phase, binds_gc, Bool.false_eq_true, false_implies, forall_const, true_and, and_true] at hd
        have q25 := (H1.out (by simp [hd]))
        have q29 := (H5.out (by simp [hd]))
        have hb0 := Below.refl W.heap.size W
        go_simp
        go_at_call 163
        (with_reducible refine (MC.out _ _ _ (q25.keep ?_) (q29.keep ?_)).mono ?_); (repeat (first|exact bzR _ _|exact hb0|refine bzD ?_|refine bzN ?_|refine bzS ?_|refine bzA ?_)); (repeat (first|exact bzR _ _|exact hb0|refine bzD ?_|refine bzN ?_|refine bzS ?_|refine bzA ?_))
        rintro e W2 ⟨⟨u, v, rfl, hu, hv⟩, hb2⟩
        have hbb : Below W.heap.size W W2 := bthen bZ hb2
        have hbc := hb.trans (hbb.mono hb.size)
        exact hK _ _ ⟨t7, t8, t9, t23, t24, t25, t26, t27, t28, t29, .tuple #[u, v, .int .i64 0], t31, t32, t33, putsE, hbc, od H0, odK H1 hbb, od H2, od H3, odK H4 hbb, odK H5 hbb, fun _ => ⟨u, v, rfl, hu, _, hv⟩, odT H7 hbb, odK H8 hbb, odE H9 hbb, odP H11 hbb, odV H12 hbb, odN hne, odS HF13, odS HF14⟩
      · intro ls a W hd hsz hnd hI K hK
        obtain ⟨t7, t8, t9, t23, t24, t25, t26, t27, t28, t29, t30, t31, t32, t33, rfl, hb, h0, h1, h2, h3, h4, h5, h6, h7, h8, h9, h11, h12, hne, hf13, hf14⟩ := hI
        have H0 := Lib.hid h0
        have H1 := Lib.hid h1
        have H2 := Lib.hid h2
        have H3 := Lib.hid h3
        have H4 := Lib.hid h4
        have H5 := Lib.hid h5
        have H6 := Lib.hid h6
        have H7 := Lib.hid h7
        have H8 := Lib.hid h8
        have H9 := Lib.hid h9
        have H11 := Lib.hid h11
        have H12 := Lib.hid h12
        have HF13 := Lib.hid hf13
        have HF14 := Lib.hid hf14
        clear hf13 hf14 h0 h1 h2 h3 h4 h5 h6 h7 h8 h9 h11 h12
        subst hA
        simp only [puts_cons, puts_nil, Act.put, List.setIfInBounds_toArray, List.set_cons_zero, List.set_cons_succ]
        simp only [List.mem_cons, List.not_mem_nil, or_false, forall_eq_or_imp, forall_eq, binds_data, binds_chain, binds_phase, binds_gc, Bool.false_eq_true, false_implies, forall_const, true_and, and_true] at hd
        go_simp
        exact hK _ _ ⟨t7, t8, t9, t30, t24, t25, t26, t27, t28, t29, t30, t31, t32, t33, putsE, hb, od H0, od H1, od H2, od H3, od H4, od H5, od H6, fun _ => H6.out (by simp [hd]), od H8, od H9, odp H11, od H12, odN hne, odS HF13, odS HF14⟩
      · intro ls a W hd hsz hnd hI K hK
        obtain ⟨t7, t8, t9, t23, t24, t25, t26, t27, t28, t29, t30, t31, t32, t33, rfl, hb, h0, h1, h2, h3, h4, h5, h6, h7, h8, h9, h11, h12, hne, hf13, hf14⟩ := hI
        have H0 := Lib.hid h0
        have H1 := Lib.hid h1
        have H2 := Lib.hid h2
        have H3 := Lib.hid h3
        have H4 := Lib.hid h4
        have H5 := Lib.hid h5
        have H6 := Lib.hid h6
        have H7 := Lib.hid h7
        have H8 := Lib.hid h8
        have H9 := Lib.hid h9
        have H11 := Lib.hid h11
        have H12 := Lib.hid h12
        have HF13 := Lib.hid hf13
        have HF14 := Lib.hid hf14
        clear hf13 hf14 h0 h1 h2 h3 h4 h5 h6 h7 h8 h9 h11 h12
        subst hA
        simp only [puts_cons, puts_nil, Act.put, List.setIfInBounds_toArray, List.set_cons_zero, List.set_cons_succ]
        simp only [List.mem_cons, List.not_mem_nil, or_false, forall_eq_or_imp, forall_eq, binds_data, binds_chain, binds_phase, binds_gc, Bool.false_eq_true, false_implies, forall_const, true_and, and_true] at hd
        obtain ⟨u, v, e, q1, z, q2⟩ := (H7.out (by simp [hd]))
        subst e
        go_simp
        exact hK _ _ ⟨t7, t8, t9, .tuple #[u, v, .int .i64 0], t24, t25, t26, t27, t28, t29, t30, u, t32, t33, putsE, hb, od H0, od H1, od H2, od H3, od H4, od H5, od H6, od H7, fun _ => q1, od H9, odp H11, od H12, odN hne, odS HF13, odS HF14⟩
      · intro ls a W hd hsz hnd hI K hK
        obtain ⟨t7, t8, t9, t23, t24, t25, t26, t27, t28, t29, t30, t31, t32, t33, rfl, hb, h0, h1, h2, h3, h4, h5, h6, h7, h8, h9, h11, h12, hne, hf13, hf14⟩ := hI
        have H0 := Lib.hid h0
        have H1 := Lib.hid h1
        have H2 := Lib.hid h2
        have H3 := Lib.hid h3
        have H4 := Lib.hid h4
        have H5 := Lib.hid h5
        have H6 := Lib.hid h6
        have H7 := Lib.hid h7
        have H8 := Lib.hid h8
        have H9 := Lib.hid h9
        have H11 := Lib.hid h11
        have H12 := Lib.hid h12
        have HF13 := Lib.hid hf13
        have HF14 := Lib.hid hf14
        clear hf13 hf14 h0 h1 h2 h3 h4 h5 h6 h7 h8 h9 h11 h12
        subst hA
        simp only [puts_cons, puts_nil, Act.put, List.setIfInBounds_toArray, List.set_cons_zero, List.set_cons_succ]
        simp only [List.mem_cons, List.not_mem_nil, or_false, forall_eq_or_imp, forall_eq, binds_data, binds_chain, binds_phase, binds_gc, Bool.false_eq_true, false_implies, forall_const, true_and, and_true] at hd
        obtain ⟨u, v, e, q1, z, q2⟩ := (H7.out (by simp [hd]))
        subst e
        go_simp
        exact hK _ _ ⟨t7, t8, t9, .tuple #[u, v, .int .i64 0], t24, t25, t26, t27, t28, t29, t30, t31, v, t33, putsE, hb, od H0, od H1, od H2, od H3, od H4, od H5, od H6, od H7, od H8, fun _ => ⟨z, q2⟩, odp H11, od H12, odN hne, odS HF13, odS HF14⟩
      · intro ls a W hd hsz hnd hI K hK
        obtain ⟨t7, t8, t9, t23, t24, t25, t26, t27, t28, t29, t30, t31, t32, t33, rfl, hb, h0, h1, h2, h3, h4, h5, h6, h7, h8, h9, h11, h12, hne, hf13, hf14⟩ := hI
        have H0 := Lib.hid h0
        have H1 := Lib.hid h1
        have H2 := Lib.hid h2
        have H3 := Lib.hid h3
        have H4 := Lib.hid h4
        have H5 := Lib.hid h5
        have H6 := Lib.hid h6
        have H7 := Lib.hid h7
        have H8 := Lib.hid h8
        have H9 := Lib.hid h9
        have H11 := Lib.hid h11
        have H12 := Lib.hid h12
        have HF13 := Lib.hid hf13
        have HF14 := Lib.hid hf14
        clear hf13 hf14 h0 h1 h2 h3 h4 h5 h6 h7 h8 h9 h11 h12
        subst hA
        simp only [puts_cons, puts_nil, Act.put, List.setIfInBounds_toArray, List.set_cons_zero, List.set_cons_succ]
        simp only [List.mem_cons, List.not_mem_nil, or_false, forall_eq_or_imp, forall_eq, binds_data, binds_chain, binds_phase, binds_gc, Bool.false_eq_true, false_implies, forall_const, true_and, and_true] at hd
        obtain ⟨u, v, e, q1, z, q2⟩ := (H7.out (by simp [hd]))
        subst e
        go_simp
        exact hK _ _ ⟨t7, t8, t9, .tuple #[u, v, .int .i64 0], t24, t25, t26, t27, t28, t29, t30, t31, t32, .int .i64 0, putsE, hb, od H0, od H1, od H2, od H3, od H4, od H5, od H6, od H7, od H8, od H9, odp H11, od H12, odN hne, odS HF13, odS HF14⟩
      · intro ls a W hd hsz hnd hI K hK
        obtain ⟨t7, t8, t9, t23, t24, t25, t26, t27, t28, t29, t30, t31, t32, t33, rfl, hb, h0, h1, h2, h3, h4, h5, h6, h7, h8, h9, h11, h12, hne, hf13, hf14⟩ := hI
        have H0 := Lib.hid h0
        have H1 := Lib.hid h1
        have H2 := Lib.hid h2
        have H3 := Lib.hid h3
        have H4 := Lib.hid h4
        have H5 := Lib.hid h5
        have H6 := Lib.hid h6
        have H7 := Lib.hid h7
        have H8 := Lib.hid h8
        have H9 := Lib.hid h9
        have H11 := Lib.hid h11
        have H12 := Lib.hid h12
        have HF13 := Lib.hid hf13
        have HF14 := Lib.hid hf14
        clear hf13 hf14 h0 h1 h2 h3 h4 h5 h6 h7 h8 h9 h11 h12
        subst hA
        simp only [puts_cons, puts_nil, Act.put, List.setIfInBounds_toArray, List.set_cons_zero, List.set_cons_succ]
        simp only [List.mem_cons, List.not_mem_nil, or_false, forall_eq_or_imp, forall_eq, binds_data, binds_chain, binds_phase, binds_gc, Bool.false_eq_true, false_implies, forall_const, true_and, and_true] at hd
        have hb0 := Below.refl W.heap.size W
        have HVN : VarI W.heap.size 0 (W.alloc (.cells #[.bool false, .slice none 0 0] 50)) := ⟨typ_fresh rfl, false, none, 0, 0, cell_new rfl rfl, cell_new rfl rfl, by simp [go_sem], by simp [go_sem], isInt_zero _⟩
        have hbb : Below W.heap.size W (W.alloc (.cells #[.bool false, .slice none 0 0] 50)) := bal hb0 _
        have hbc := hb.trans (hbb.mono hb.size)
        go_simp
        exact hK _ _ ⟨.pointer (some ⟨W.heap.size, 0, none⟩), t8, t9, t23, t24, t25, t26, t27, t28, t29, t30, t31, t32, t33, putsE, hbc, od H0, odK H1 hbb, od H2, od H3, odK H4 hbb, odK H5 hbb, odT H6 hbb, odT H7 hbb, odK H8 hbb, odE H9 hbb, fun _ => ⟨W.heap.size, 0, rfl, hb.size, HVN, fun hk => absurd (HF13.out hk.old) hnd⟩, odV H12 hbb, fun hh1 hh2 => by obtain ⟨bb, zz, e, q0, q1⟩ := H12.out hh2.old; rw [e]; intro e2; have := typ_lt q1.1; first | (simp at e2; done) | (simp at e2; omega), odS HF13, odS HF14⟩
      · intro ls a W hd hsz hnd hI K hK
        obtain ⟨t7, t8, t9, t23, t24, t25, t26, t27, t28, t29, t30, t31, t32, t33, rfl, hb, h0, h1, h2, h3, h4, h5, h6, h7, h8, h9, h11, h12, hne, hf13, hf14⟩ := hI
        have H0 := Lib.hid h0
        have H1 := Lib.hid h1
        have H2 := Lib.hid h2
        have H3 := Lib.hid h3
        have H4 := Lib.hid h4
        have H5 := Lib.hid h5
        have H6 := Lib.hid h6
        have H7 := Lib.hid h7
        have H8 := Lib.hid h8
        have H9 := Lib.hid h9
        have H11 := Lib.hid h11
        have H12 := Lib.hid h12
        have HF13 := Lib.hid hf13
        have HF14 := Lib.hid hf14
        clear hf13 hf14 h0 h1 h2 h3 h4 h5 h6 h7 h8 h9 h11 h12
        subst hA
        simp only [puts_cons, puts_nil, Act.put, List.setIfInBounds_toArray, List.set_cons_zero, List.set_cons_succ]
        simp only [List.mem_cons, List.not_mem_nil, or_false, forall_eq_or_imp, forall_eq, binds_data, binds_chain, binds_phase, binds_gc, Bool.false_eq_true, false_implies, forall_const, true_and, and_true] at hd
        have hb0 := Below.refl W.heap.size W
        have HVN : VarI W.heap.size 0 (W.alloc (.cells #[.bool false, .slice none 0 0] 50)) := ⟨typ_fresh rfl, false, none, 0, 0, cell_new rfl rfl, cell_new rfl rfl, by simp [go_sem], by simp [go_sem], isInt_zero _⟩
        have hbb : Below W.heap.size W (W.alloc (.cells #[.bool false, .slice none 0 0] 50)) := bal hb0 _
        have hbc := hb.trans (hbb.mono hb.size)
        go_simp
        exact hK _ _ ⟨t7, .pointer (some ⟨W.heap.size, 0, none⟩), t9, t23, t24, t25, t26, t27, t28, t29, t30, t31, t32, t33, putsE, hbc, od H0, odK H1 hbb, od H2, od H3, odK H4 hbb, odK H5 hbb, odT H6 hbb, odT H7 hbb, odK H8 hbb, odE H9 hbb, odP H11 hbb, fun _ => ⟨W.heap.size, 0, rfl, hb.size, HVN⟩, fun hh1 hh2 => by obtain ⟨bb, zz, e, q0, q1, _⟩ := H11.out hh1.old; rw [e]; intro e2; have := typ_lt q1.1; first | (simp at e2; done) | (simp at e2; omega), odS HF13, odS HF14⟩
      · intro ls a W hd hsz hnd hI K hK
        obtain ⟨t7, t8, t9, t23, t24, t25, t26, t27, t28, t29, t30, t31, t32, t33, rfl, hb, h0, h1, h2, h3, h4, h5, h6, h7, h8, h9, h11, h12, hne, hf13, hf14⟩ := hI
        have H0 := Lib.hid h0
        have H1 := Lib.hid h1
        have H2 := Lib.hid h2
        have H3 := Lib.hid h3
        have H4 := Lib.hid h4
        have H5 := Lib.hid h5
        have H6 := Lib.hid h6
        have H7 := Lib.hid h7
        have H8 := Lib.hid h8
        have H9 := Lib.hid h9
        have H11 := Lib.hid h11
        have H12 := Lib.hid h12
        have HF13 := Lib.hid hf13
        have HF14 := Lib.hid hf14
        clear hf13 hf14 h0 h1 h2 h3 h4 h5 h6 h7 h8 h9 h11 h12
        subst hA
        simp only [puts_cons, puts_nil, Act.put, List.setIfInBounds_toArray, List.set_cons_zero, List.set_cons_succ]
        simp only [List.mem_cons, List.not_mem_nil, or_false, forall_eq_or_imp, forall_eq, binds_data, binds_chain, binds_phase, binds_gc, Bool.false_eq_true, false_implies, forall_const, true_and, and_true] at hd
        obtain ⟨b7, z, e, q0, q1, q2⟩ := (H11.out (by simp [hd]))
        have q31 := (H8.out (by simp [hd]))
        obtain ⟨n3, a3, l3, c3, rfl⟩ := q31.lit
        have hpt := e
        subst e
        have HV7 := Lib.hid q1
        obtain ⟨-, vn, va, vl, vc, v0, v1, v0f, v1f, -⟩ := q1
        have zv := cell_lt v0
        clear hpt
        go_simp
        exact hK _ _ ⟨.pointer (some ⟨b7, 0, none⟩), t8, t9, t23, t24, t25, t26, t27, t28, t29, t30, .agg #[.bool n3, .slice a3 l3 c3], t32, t33, putsE, bset (bset hb (p := ⟨b7, 0, none⟩) q0 _) (p := ⟨b7, 1, none⟩) q0 _, od H0, fun hh => (H1.out hh.old).put2 v0 v1 _ _, od H2, od H3, fun hh => (H4.out hh.old).put2 v0 v1 _ _, fun hh => (H5.out hh.old).put2 v0 v1 _ _, fun hh => by obtain ⟨u, v, e, q1, z, q2⟩ := H6.out hh.old; exact ⟨u, v, e, q1.put2 v0 v1 _ _, z, q2.put2 v0 v1 _ _⟩, fun hh => by obtain ⟨u, v, e, q1, z, q2⟩ := H7.out hh.old; exact ⟨u, v, e, q1.put2 v0 v1 _ _, z, q2.put2 v0 v1 _ _⟩, fun hh => (H8.out hh.old).put2 v0 v1 _ _, fun hh => by obtain ⟨z, q2⟩ := H9.out hh.old; exact ⟨z, q2.put2 v0 v1 _ _⟩, fun hh => ⟨b7, Z, rfl, q0, HV7.out.put q31, fun _ => rfl⟩, fun hh => by obtain ⟨b6, z6, e, r0, r1⟩ := H12.out hh.old; exact ⟨b6, z6, e, r0, VarI.putFar r1 HV7.out (fun e2 => hne (by simp [hd]) hh.old (by rw [e, e2])) _ _⟩, odN hne, fun _ => (by simp [hd] : Done ls 11).set, odS HF14⟩
      · intro ls a W hd hsz hnd hI K hK
        obtain ⟨t7, t8, t9, t23, t24, t25, t26, t27, t28, t29, t30, t31, t32, t33, rfl, hb, h0, h1, h2, h3, h4, h5, h6, h7, h8, h9, h11, h12, hne, hf13, hf14⟩ := hI
        have H0 := Lib.hid h0
        have H1 := Lib.hid h1
        have H2 := Lib.hid h2
        have H3 := Lib.hid h3
        have H4 := Lib.hid h4
        have H5 := Lib.hid h5
        have H6 := Lib.hid h6
        have H7 := Lib.hid h7
        have H8 := Lib.hid h8
        have H9 := Lib.hid h9
        have H11 := Lib.hid h11
        have H12 := Lib.hid h12
        have HF13 := Lib.hid hf13
        have HF14 := Lib.hid hf14
        clear hf13 hf14 h0 h1 h2 h3 h4 h5 h6 h7 h8 h9 h11 h12
        subst hA
        simp only [puts_cons, puts_nil, Act.put, List.setIfInBounds_toArray, List.set_cons_zero, List.set_cons_succ]
        simp only [List.mem_cons, List.not_mem_nil, or_false, forall_eq_or_imp, forall_eq, binds_data, binds_chain, binds_phase, binds_gc, Bool.false_eq_true, false_implies, forall_const, true_and, and_true] at hd
        obtain ⟨b7, z, e, q0, q1⟩ := (H12.out (by simp [hd]))
        obtain ⟨zz, q31⟩ := (H9.out (by simp [hd]))
        obtain ⟨n3, a3, l3, c3, rfl⟩ := q31.lit
        subst e
        have HV7 := Lib.hid q1
        obtain ⟨-, vn, va, vl, vc, v0, v1, v0f, v1f, -⟩ := q1
        have zv := cell_lt v0
        go_simp
        exact hK _ _ ⟨t7, .pointer (some ⟨b7, 0, none⟩), t9, t23, t24, t25, t26, t27, t28, t29, t30, t31, .agg #[.bool n3, .slice a3 l3 c3], t33, putsE, bset (bset hb (p := ⟨b7, 0, none⟩) q0 _) (p := ⟨b7, 1, none⟩) q0 _, od H0, fun hh => (H1.out hh.old).put2 v0 v1 _ _, od H2, od H3, fun hh => (H4.out hh.old).put2 v0 v1 _ _, fun hh => (H5.out hh.old).put2 v0 v1 _ _, fun hh => by obtain ⟨u, v, e, q1, z, q2⟩ := H6.out hh.old; exact ⟨u, v, e, q1.put2 v0 v1 _ _, z, q2.put2 v0 v1 _ _⟩, fun hh => by obtain ⟨u, v, e, q1, z, q2⟩ := H7.out hh.old; exact ⟨u, v, e, q1.put2 v0 v1 _ _, z, q2.put2 v0 v1 _ _⟩, fun hh => (H8.out hh.old).put2 v0 v1 _ _, fun hh => by obtain ⟨z, q2⟩ := H9.out hh.old; exact ⟨z, q2.put2 v0 v1 _ _⟩, fun hh => by obtain ⟨b6, z6, e, r0, r1, r2⟩ := H11.out hh.old; exact ⟨b6, z6, e, r0, VarI.putFar r1 HV7.out (fun e2 => hne hh.old (by simp [hd]) (by rw [e, e2])) _ _, fun hk => r2 hk.old⟩, fun hh => ⟨b7, _, rfl, q0, HV7.out.put q31⟩, odN hne, odS HF13, fun _ => (by simp [hd] : Done ls 12).set⟩
      · intro ls a W hd hsz hnd hI K hK
        obtain ⟨t7, t8, t9, t23, t24, t25, t26, t27, t28, t29, t30, t31, t32, t33, rfl, hb, h0, h1, h2, h3, h4, h5, h6, h7, h8, h9, h11, h12, hne, hf13, hf14⟩ := hI
        have H0 := Lib.hid h0
        have H1 := Lib.hid h1
        have H2 := Lib.hid h2
        have H3 := Lib.hid h3
        have H4 := Lib.hid h4
        have H5 := Lib.hid h5
        have H6 := Lib.hid h6
        have H7 := Lib.hid h7
        have H8 := Lib.hid h8
        have H9 := Lib.hid h9
        have H11 := Lib.hid h11
        have H12 := Lib.hid h12
        have HF13 := Lib.hid hf13
        have HF14 := Lib.hid hf14
        clear hf13 hf14 h0 h1 h2 h3 h4 h5 h6 h7 h8 h9 h11 h12
        subst hA
        simp only [puts_cons, puts_nil, Act.put, List.setIfInBounds_toArray, List.set_cons_zero, List.set_cons_succ]
        simp only [List.mem_cons, List.not_mem_nil, or_false, forall_eq_or_imp, forall_eq, binds_data, binds_chain, binds_phase, binds_gc, Bool.false_eq_true, false_implies, forall_const, true_and, and_true] at hd
        go_simp
        exact hK _ _ ⟨t7, t8, t33, t23, t24, t25, t26, t27, t28, t29, t30, t31, t32, t33, putsE, hb, od H0, od H1, od H2, od H3, od H4, od H5, od H6, od H7, od H8, od H9, odp H11, od H12, odN hne, odS HF13, odS HF14⟩
    · intro ls a W hdn hI
      obtain ⟨t7, t8, t9, t23, t24, t25, t26, t27, t28, t29, t30, t31, t32, t33, rfl, hb, h0, h1, h2, h3, h4, h5, h6, h7, h8, h9, h11, h12, -⟩ := hI
      have H11 := h11 (hdn 11 (by decide))
      obtain ⟨b7, z, rfl, q0, q1, q2⟩ := H11
      obtain rfl := q2 (hdn 13 (by decide))
      clear h0 h1 h2 h3 h4 h5 h6 h7 h8 h9 h11 h12 hdn
      subst hA
      simp only [puts_cons, puts_nil, Act.put, List.setIfInBounds_toArray, List.set_cons_zero, List.set_cons_succ]
      have HD6 := Lib.hid (HD5.out.keep hb)
      have HR6 := Lib.hid (HR5.out.keep hb)
      have hB6 := bthen hB5 hb
      obtain ⟨-, en, ea, el, ec, e0, e1, e0f, e1f, eI⟩ := HD6.out
      obtain ⟨-, fn, fa, fl, fc, f0, f1, -, -, fI⟩ := q1
      have zd := cell_lt e0
      have zq := cell_lt f0
      have hbW := Below.refl W.heap.size W
      have UC := Lib.hid (fun V (q : Below W.heap.size W V) => mul_c _ _ (comD (L.take j)) z (k * (n + 1) + 1) (k * (n + 1) + 1) V (eI.keep q) (fI.keep q) HBK.out.1 HBK.out.2 (by omega) (by omega))
      have HCN := Lib.hid (show comD (L.take (j + 1)) = comD (L.take j) * z from by rw [HCS.out j hlt, comStep, HZE.out])
      clear fI eI q2 q0 hmx DC GC MC HXC
      go_wp2_with fail
      (with_reducible refine (UC.out _ ?_).mono ?_); (repeat (first|exact bzR _ _|exact hbW|refine bzD ?_|refine bzN ?_|refine bzS ?_|refine bzA ?_))
      rintro e w9 ⟨⟨u9, rfl, hu9⟩, hb9⟩
      have hk9 : Below W.heap.size W w9 := bthen bZ hb9
      have HD9 := Lib.hid (HD6.out.keep hk9)
      have HR9 := Lib.hid (HR6.out.keep hk9)
      have HU9 := Lib.hid hu9
      rw [← HCN.out] at HU9
      obtain ⟨n9, a9, l9, c9, rfl⟩ := hu9.lit
      have e0 := bkeep hk9 e0
      have e1 := bkeep hk9 e1
      have hB9 := bthen hB6 hk9
      have e0f := (HD9.out).2
      obtain ⟨_, _, _, _, r0, r1, e0f, e1f, -⟩ := e0f
      have zd9 := cell_lt e0
      clear UC hu9 hb9 r0 r1
      go_wp2
      exact ⟨⟨j + 1, hlt, by go_num, bset (bset hB9 (p := ⟨db, 0, none⟩) (by simp; omega) _) (p := ⟨db, 1, none⟩) (by simp; omega) _, by simp; omega, Lib.hid ⟨HD9.out.put HU9.out, VarI.putFar HR9.out HD9.out (by omega) _ _⟩⟩, meas hlt (by go_num) rfl⟩
    -- END5
  · obtain rfl : n = j := by omega
    have hltI : ¬ (n : Int) < (n : Int) := by omega
    have HD1 := Lib.hid hE.out.1
    have HR1 := Lib.hid hE.out.2
    have HLE := Lib.hid (show comD (L.take n) = comD L by rw [← HN.out, List.take_length])
    obtain ⟨DD, hDD⟩ : ∃ DD, comD (L.take n) = DD := ⟨_, rfl⟩
    have hDp := HCB.out n (Nat.le_refl _)
    rw [hDD] at HD1 HLE hDp
    have HDP := Lib.hid hDp
    obtain ⟨w1, hw1⟩ : ∃ w1, wr = w1 := ⟨_, rfl⟩
    rw [hw1] at HD1 HR1 hBr hdr ⊢
    clear hw1 hDD hDp hE HD2 HR2 hB2 hdl HCS hj hltI
    have hBw1 := Below.refl w1.heap.size w1
    have HBR := Lib.hid hBr
    clear hBr
    have hltI : ¬ (n : Int) < (n : Int) := by omega
    go_wp2
    clear hltI
    go_loopw [10, 40] (fun v x wr => ∃ j : Nat, j ≤ n ∧ x = .int .i64 j ∧ Hid (OwnF IsInt 50 w1 wr v j (fun i => (L.getD i 0).num * (DD / ((L.getD i 0).den : Int))))) (fun _ x _ => n - (intOf x).toNat)
    case atStart => exact ⟨0, Nat.zero_le _, rfl, Lib.hid (OwnF.nil _ _ _ hBw1)⟩
    case round =>
     obtain ⟨j, hj, rfl, hF⟩ := hrel
     have hbF := hF.out.bel
     obtain ⟨fa, fc, hfv⟩ : ∃ a c, _ = Value.slice a j c := by obtain ⟨a, c, h, _⟩ := hF.out.view; exact ⟨a, c, h⟩
     subst hfv
     by_cases hlt : j < n
     · have hltI : (j : Int) < (n : Int) := by omega
       have hvr := HV.out.keep (bthen HBR.out hbF)
       rw [HN.out] at hvr
       obtain ⟨b, off, rfl, -, g1, y1, s1, t1, g2, y2, s2, t2, q0, q1, q2, q3, qI⟩ := FrRow.at hvr hlt
       have zb := cell_lt q0
       have HQ := Lib.hid qI
       go_wp2
       refine wp_name fun w5 hW5 => ?_
       have hBr0 := Below.refl wr.heap.size wr
       have hb5 : Below wr.heap.size wr w5 := by rw [hW5]; repeat (first|exact bzR _ _|exact hBr0|refine bzD ?_|refine bzN ?_|refine bzS ?_|refine bzA ?_)
       have X0 : w5.cell? ⟨wr.heap.size, 0, none⟩ = some (.bool g1) ∧ w5.cell? ⟨wr.heap.size, 1, none⟩ = some (.slice y1 s1 t1) ∧ w5.cell? ⟨wr.heap.size, 2, none⟩ = some (.bool g2) ∧ w5.cell? ⟨wr.heap.size, 3, none⟩ = some (.slice y2 s2 t2) := by rw [hW5]; simp [go_sem]
       obtain ⟨x0, x1, x2, x3⟩ := X0
       have zx0 := cell_lt x0
       have HQ5 := Lib.hid (HQ.out.keep hb5)
       have HD5 := Lib.hid (HD1.out.keep (bthen hbF hb5))
       have HF5 := Lib.hid (hF.out.below lims_int hb5)
       obtain ⟨-, dn, da, dl, dc, d0, d1, d0f, d1f, dI⟩ := HD5.out
       have HDI := Lib.hid dI
       have HXC := Lib.hid (fun V (q : Below w5.heap.size w5 V) => And.intro (bkeep q x0) (And.intro (bkeep q x1) (And.intro (bkeep q x2) (And.intro (bkeep q x3) (And.intro (bkeep q d0) (bkeep q d1))))))
       obtain ⟨X, hX⟩ : ∃ X, Value.agg #[.bool g1, .slice y1 s1 t1, .bool g2, .slice y2 s2 t2] = X := ⟨_, rfl⟩
       obtain ⟨Y, hY⟩ : ∃ Y, Value.agg #[.bool dn, .slice da dl dc] = Y := ⟨_, rfl⟩
       obtain ⟨Z, hZ⟩ : ∃ Z, DD / ((L.getD j 0).den : Int) = Z := ⟨_, rfl⟩
       have HXE := Lib.hid hX
       have HYE := Lib.hid hY
       have HZE := Lib.hid hZ
       have hbq := HBL.out j (by rw [HN.out]; exact hlt)
       have hkn : k ≤ k * (n + 1) := Nat.le_mul_of_pos_right k (show 0 < n + 1 by omega)
       have hkk : k * n + 1 ≤ k * (n + 1) + 1 := by have := Nat.mul_le_mul_left k (show n ≤ n + 1 by omega); omega
       have DC := Lib.hid (fun V (q : Below w5.heap.size w5 V) => pqDen_c _ (L.getD j 0) k V (HQ5.out.keep q) hbq (by omega))
       have hbk : Bd (k * (n + 1) + 1) DD := HDP.out.2.mono hkk
       have hbd : Bd (k * (n + 1) + 1) ((L.getD j 0).den : Int) := hbq.2.mono (by omega)
       have hbn : Bd (k * (n + 1) + 1) (L.getD j 0).num := hbq.1.mono (by omega)
       have MC := Lib.hid (fun v V (q : Below w5.heap.size w5 V) (hv : IsInt V v ((L.getD j 0).den : Int)) => divmod_c _ v _ _ (k * (n + 1) + 1) V (HDI.out.keep q) hv hbk hbd (by omega) (by have := den_pos (L.getD j 0); omega))
       rw [hZ] at MC
       have HBK := Lib.hid (And.intro hbn (show Bd (k * (n + 1) + 1) Z from by rw [← hZ]; exact bd_ediv hbk _))
       have HB5 := Lib.hid (bthen hbF hb5)
       clear hbk hbd hbn hbq hkn hkk hX hY hZ d0 d1 x0 x1 x2 x3 hW5 qI q0 q1 q2 q3 dI d0f d1f hF hbF
       have hBr5 := Below.refl w5.heap.size w5
       have hmx : (Tryz.prog).follows .mixedOrders = true := by kernel_rfl
       refine wp_named fun A hA => ?_
       refine wp_region_invs hmx (by kernel_rfl) (fun ls a W => ∃ t13 t14 t15 t44 t45 t46 t47 t48 t49 t50 t51 : Value, a = puts A [(13, t13), (14, t14), (15, t15), (44, t44), (45, t45), (46, t46), (47, t47), (48, t48), (49, t49), (50, t50), (51, t51)] ∧ Below w5.heap.size w5 W ∧ (Done ls 0 → t45 = Y) ∧ (Done ls 1 → t46 = X) ∧ (Done ls 2 → IsInt W t47 ((L.getD j 0).den : Int)) ∧ (Done ls 3 → ∃ u v, t48 = .tuple #[u, v, .int .i64 0] ∧ IsInt W u Z ∧ ∃ z, IsInt W v z) ∧ (Done ls 4 → ∃ u v, t44 = .tuple #[u, v, .int .i64 0] ∧ IsInt W u Z ∧ ∃ z, IsInt W v z) ∧ (Done ls 5 → IsInt W t49 Z) ∧ (Done ls 6 → ∃ z, IsInt W t50 z) ∧ (Done ls 8 → ∃ b7 z, t13 = .pointer (some ⟨b7, 0, none⟩) ∧ w5.heap.size ≤ b7 ∧ VarI b7 z W ∧ (Done ls 10 → z = Z)) ∧ (Done ls 9 → ∃ b8 z, t14 = .pointer (some ⟨b8, 0, none⟩) ∧ w5.heap.size ≤ b8 ∧ VarI b8 z W) ∧ (Done ls 8 → Done ls 9 → t13 ≠ t14) ∧ (Done ls 10 → Done ls 8) ∧ (Done ls 11 → Done ls 9)) ?_ ?_ ?_
       · have nd : ∀ i, ¬ Done (Array.replicate 13 false) i := fun i h => by
          unfold Done at h
          simp [Array.getD] at h
         refine ⟨u13, u14, u15, u44, u45, u46, u47, u48, u49, u50, u51, ?_, bZ, fun h => absurd h (nd _), fun h => absurd h (nd _), fun h => absurd h (nd _), fun h => absurd h (nd _), fun h => absurd h (nd _), fun h => absurd h (nd _), fun h => absurd h (nd _), fun h => absurd h (nd _), fun h => absurd h (nd _), fun h => absurd h (nd _), fun h => absurd h (nd _), fun h => absurd h (nd _)⟩
         subst hA
         simp only [puts_cons, puts_nil, Act.put, List.setIfInBounds_toArray, List.set_cons_zero, List.set_cons_succ]
       · refine .cons ?_ (.cons ?_ (.cons ?_ (.cons ?_ (.cons ?_ (.cons ?_ (.cons ?_ (.cons ?_ (.cons ?_ (.cons ?_ (.cons ?_ (.cons ?_ (.cons ?_ .nil))))))))))))
         · intro ls a W hd hsz hnd hI K hK
           obtain ⟨t13, t14, t15, t44, t45, t46, t47, t48, t49, t50, t51, rfl, hb, h0, h1, h2, h3, h4, h5, h6, h8, h9, hne, hfS1, hfS2⟩ := hI
           have H0 := Lib.hid h0
           have H1 := Lib.hid h1
           have H2 := Lib.hid h2
           have H3 := Lib.hid h3
           have H4 := Lib.hid h4
           have H5 := Lib.hid h5
           have H6 := Lib.hid h6
           have H8 := Lib.hid h8
           have H9 := Lib.hid h9
           have HFS1 := Lib.hid hfS1
           have HFS2 := Lib.hid hfS2
           clear hfS1 hfS2 h0 h1 h2 h3 h4 h5 h6 h8 h9
           subst hA
           simp only [puts_cons, puts_nil, Act.put, List.setIfInBounds_toArray, List.set_cons_zero, List.set_cons_succ]
           simp only [List.mem_cons, List.not_mem_nil, or_false, forall_eq_or_imp, forall_eq, binds_data, binds_chain, binds_phase, binds_gc, Bool.false_eq_true, false_implies, forall_const, true_and, and_true] at hd
           have xc := HXC.out W hb
           obtain ⟨x0, x1, x2, x3, d0, d1⟩ := xc
           go_simp
           exact hK _ _ ⟨t13, t14, t15, t44, .agg #[.bool dn, .slice da dl dc], t46, t47, t48, t49, t50, t51, putsE, hb, fun _ => HYE.out, od H1, od H2, od H3, od H4, od H5, od H6, odp H8, od H9, odN hne, odS HFS1, odS HFS2⟩
         · intro ls a W hd hsz hnd hI K hK
           obtain ⟨t13, t14, t15, t44, t45, t46, t47, t48, t49, t50, t51, rfl, hb, h0, h1, h2, h3, h4, h5, h6, h8, h9, hne, hfS1, hfS2⟩ := hI
           have H0 := Lib.hid h0
           have H1 := Lib.hid h1
           have H2 := Lib.hid h2
           have H3 := Lib.hid h3
           have H4 := Lib.hid h4
           have H5 := Lib.hid h5
           have H6 := Lib.hid h6
           have H8 := Lib.hid h8
           have H9 := Lib.hid h9
           have HFS1 := Lib.hid hfS1
           have HFS2 := Lib.hid hfS2
           clear hfS1 hfS2 h0 h1 h2 h3 h4 h5 h6 h8 h9
           subst hA
           simp only [puts_cons, puts_nil, Act.put, List.setIfInBounds_toArray, List.set_cons_zero, List.set_cons_succ]
           simp only [List.mem_cons, List.not_mem_nil, or_false, forall_eq_or_imp, forall_eq, binds_data, binds_chain, binds_phase, binds_gc, Bool.false_eq_true, false_implies, forall_const, true_and, and_true] at hd
           have xc := HXC.out W hb
           obtain ⟨x0, x1, x2, x3, d0, d1⟩ := xc
           go_simp
           exact hK _ _ ⟨t13, t14, t15, t44, t45, .agg #[.bool g1, .slice y1 s1 t1, .bool g2, .slice y2 s2 t2], t47, t48, t49, t50, t51, putsE, hb, od H0, fun _ => HXE.out, od H2, od H3, od H4, od H5, od H6, odp H8, od H9, odN hne, odS HFS1, odS HFS2⟩
         · intro ls a W hd hsz hnd hI K hK
           obtain ⟨t13, t14, t15, t44, t45, t46, t47, t48, t49, t50, t51, rfl, hb, h0, h1, h2, h3, h4, h5, h6, h8, h9, hne, hfS1, hfS2⟩ := hI
           have H0 := Lib.hid h0
           have H1 := Lib.hid h1
           have H2 := Lib.hid h2
           have H3 := Lib.hid h3
           have H4 := Lib.hid h4
           have H5 := Lib.hid h5
           have H6 := Lib.hid h6
           have H8 := Lib.hid h8
           have H9 := Lib.hid h9
           have HFS1 := Lib.hid hfS1
           have HFS2 := Lib.hid hfS2
           clear hfS1 hfS2 h0 h1 h2 h3 h4 h5 h6 h8 h9
           subst hA
           simp only [puts_cons, puts_nil, Act.put, List.setIfInBounds_toArray, List.set_cons_zero, List.set_cons_succ]
           simp only [List.mem_cons, List.not_mem_nil, or_false, forall_eq_or_imp, forall_eq, binds_data, binds_chain, binds_phase, binds_gc, Bool.false_eq_true, false_implies, forall_const, true_and, and_true] at hd
           have e46 := (H1.out (by simp [hd])).trans HXE.out.symm
           subst e46
           have hb0 := Below.refl W.heap.size W
           go_simp
           go_at_call 127
           (with_reducible refine (DC.out _ ?_).mono ?_); (repeat (first|exact bzR _ _|exact hb|refine bzD ?_|refine bzN ?_|refine bzS ?_|refine bzA ?_))
           rintro e W2 ⟨⟨u, rfl, hu⟩, hb2⟩
           have hbb : Below W.heap.size W W2 := bthen bZ hb2
           have hbc := hb.trans (hbb.mono hb.size)
           exact hK _ _ ⟨t13, t14, t15, t44, t45, .agg #[.bool g1, .slice y1 s1 t1, .bool g2, .slice y2 s2 t2], u, t48, t49, t50, t51, putsE, hbc, od H0, od H1, fun _ => hu, odT H3 hbb, odT H4 hbb, odK H5 hbb, odE H6 hbb, odP H8 hbb, odV H9 hbb, odN hne, odS HFS1, odS HFS2⟩
         · intro ls a W hd hsz hnd hI K hK
           obtain ⟨t13, t14, t15, t44, t45, t46, t47, t48, t49, t50, t51, rfl, hb, h0, h1, h2, h3, h4, h5, h6, h8, h9, hne, hfS1, hfS2⟩ := hI
           have H0 := Lib.hid h0
           have H1 := Lib.hid h1
           have H2 := Lib.hid h2
           have H3 := Lib.hid h3
           have H4 := Lib.hid h4
           have H5 := Lib.hid h5
           have H6 := Lib.hid h6
           have H8 := Lib.hid h8
           have H9 := Lib.hid h9
           have HFS1 := Lib.hid hfS1
           have HFS2 := Lib.hid hfS2
           clear hfS1 hfS2 h0 h1 h2 h3 h4 h5 h6 h8 h9
           subst hA
           simp only [puts_cons, puts_nil, Act.put, List.setIfInBounds_toArray, List.set_cons_zero, List.set_cons_succ]
           simp only [List.mem_cons, List.not_mem_nil, or_false, forall_eq_or_imp, forall_eq, binds_data, binds_chain, binds_phase, binds_gc, Bool.false_eq_true, false_implies, forall_const, true_and, and_true] at hd
           have e45 := (H0.out (by simp [hd])).trans HYE.out.symm
           subst e45
           have q47 := (H2.out (by simp [hd]))
           have hb0 := Below.refl W.heap.size W
           go_simp
           go_at_call 163
           (with_reducible refine (MC.out _ _ ?_ (q47.keep ?_)).mono ?_); (repeat (first|exact bzR _ _|exact hb|refine bzD ?_|refine bzN ?_|refine bzS ?_|refine bzA ?_)); (repeat (first|exact bzR _ _|exact hb0|refine bzD ?_|refine bzN ?_|refine bzS ?_|refine bzA ?_))
           rintro e W2 ⟨⟨u, v, rfl, hu, hv⟩, hb2⟩
           have hbb : Below W.heap.size W W2 := bthen bZ hb2
           have hbc := hb.trans (hbb.mono hb.size)
           exact hK _ _ ⟨t13, t14, t15, t44, .agg #[.bool dn, .slice da dl dc], t46, t47, .tuple #[u, v, .int .i64 0], t49, t50, t51, putsE, hbc, od H0, od H1, odK H2 hbb, fun _ => ⟨u, v, rfl, hu, _, hv⟩, odT H4 hbb, odK H5 hbb, odE H6 hbb, odP H8 hbb, odV H9 hbb, odN hne, odS HFS1, odS HFS2⟩
         · intro ls a W hd hsz hnd hI K hK
           obtain ⟨t13, t14, t15, t44, t45, t46, t47, t48, t49, t50, t51, rfl, hb, h0, h1, h2, h3, h4, h5, h6, h8, h9, hne, hfS1, hfS2⟩ := hI
           have H0 := Lib.hid h0
           have H1 := Lib.hid h1
           have H2 := Lib.hid h2
           have H3 := Lib.hid h3
           have H4 := Lib.hid h4
           have H5 := Lib.hid h5
           have H6 := Lib.hid h6
           have H8 := Lib.hid h8
           have H9 := Lib.hid h9
           have HFS1 := Lib.hid hfS1
           have HFS2 := Lib.hid hfS2
           clear hfS1 hfS2 h0 h1 h2 h3 h4 h5 h6 h8 h9
           subst hA
           simp only [puts_cons, puts_nil, Act.put, List.setIfInBounds_toArray, List.set_cons_zero, List.set_cons_succ]
           simp only [List.mem_cons, List.not_mem_nil, or_false, forall_eq_or_imp, forall_eq, binds_data, binds_chain, binds_phase, binds_gc, Bool.false_eq_true, false_implies, forall_const, true_and, and_true] at hd
           go_simp
           exact hK _ _ ⟨t13, t14, t15, t48, t45, t46, t47, t48, t49, t50, t51, putsE, hb, od H0, od H1, od H2, od H3, fun _ => H3.out (by simp [hd]), od H5, od H6, odp H8, od H9, odN hne, odS HFS1, odS HFS2⟩
         · intro ls a W hd hsz hnd hI K hK
           obtain ⟨t13, t14, t15, t44, t45, t46, t47, t48, t49, t50, t51, rfl, hb, h0, h1, h2, h3, h4, h5, h6, h8, h9, hne, hfS1, hfS2⟩ := hI
           have H0 := Lib.hid h0
           have H1 := Lib.hid h1
           have H2 := Lib.hid h2
           have H3 := Lib.hid h3
           have H4 := Lib.hid h4
           have H5 := Lib.hid h5
           have H6 := Lib.hid h6
           have H8 := Lib.hid h8
           have H9 := Lib.hid h9
           have HFS1 := Lib.hid hfS1
           have HFS2 := Lib.hid hfS2
           clear hfS1 hfS2 h0 h1 h2 h3 h4 h5 h6 h8 h9
           subst hA
           simp only [puts_cons, puts_nil, Act.put, List.setIfInBounds_toArray, List.set_cons_zero, List.set_cons_succ]
           simp only [List.mem_cons, List.not_mem_nil, or_false, forall_eq_or_imp, forall_eq, binds_data, binds_chain, binds_phase, binds_gc, Bool.false_eq_true, false_implies, forall_const, true_and, and_true] at hd
           obtain ⟨u, v, e, q1, z, q2⟩ := (H4.out (by simp [hd]))
           subst e
           go_simp
           exact hK _ _ ⟨t13, t14, t15, .tuple #[u, v, .int .i64 0], t45, t46, t47, t48, u, t50, t51, putsE, hb, od H0, od H1, od H2, od H3, od H4, fun _ => q1, od H6, odp H8, od H9, odN hne, odS HFS1, odS HFS2⟩
         · intro ls a W hd hsz hnd hI K hK
           obtain ⟨t13, t14, t15, t44, t45, t46, t47, t48, t49, t50, t51, rfl, hb, h0, h1, h2, h3, h4, h5, h6, h8, h9, hne, hfS1, hfS2⟩ := hI
           have H0 := Lib.hid h0
           have H1 := Lib.hid h1
           have H2 := Lib.hid h2
           have H3 := Lib.hid h3
           have H4 := Lib.hid h4
           have H5 := Lib.hid h5
           have H6 := Lib.hid h6
           have H8 := Lib.hid h8
           have H9 := Lib.hid h9
           have HFS1 := Lib.hid hfS1
           have HFS2 := Lib.hid hfS2
           clear hfS1 hfS2 h0 h1 h2 h3 h4 h5 h6 h8 h9
           subst hA
           simp only [puts_cons, puts_nil, Act.put, List.setIfInBounds_toArray, List.set_cons_zero, List.set_cons_succ]
           simp only [List.mem_cons, List.not_mem_nil, or_false, forall_eq_or_imp, forall_eq, binds_data, binds_chain, binds_phase, binds_gc, Bool.false_eq_true, false_implies, forall_const, true_and, and_true] at hd
           obtain ⟨u, v, e, q1, z, q2⟩ := (H4.out (by simp [hd]))
           subst e
           go_simp
           exact hK _ _ ⟨t13, t14, t15, .tuple #[u, v, .int .i64 0], t45, t46, t47, t48, t49, v, t51, putsE, hb, od H0, od H1, od H2, od H3, od H4, od H5, fun _ => ⟨z, q2⟩, odp H8, od H9, odN hne, odS HFS1, odS HFS2⟩
         · intro ls a W hd hsz hnd hI K hK
           obtain ⟨t13, t14, t15, t44, t45, t46, t47, t48, t49, t50, t51, rfl, hb, h0, h1, h2, h3, h4, h5, h6, h8, h9, hne, hfS1, hfS2⟩ := hI
           have H0 := Lib.hid h0
           have H1 := Lib.hid h1
           have H2 := Lib.hid h2
           have H3 := Lib.hid h3
           have H4 := Lib.hid h4
           have H5 := Lib.hid h5
           have H6 := Lib.hid h6
           have H8 := Lib.hid h8
           have H9 := Lib.hid h9
           have HFS1 := Lib.hid hfS1
           have HFS2 := Lib.hid hfS2
           clear hfS1 hfS2 h0 h1 h2 h3 h4 h5 h6 h8 h9
           subst hA
           simp only [puts_cons, puts_nil, Act.put, List.setIfInBounds_toArray, List.set_cons_zero, List.set_cons_succ]
           simp only [List.mem_cons, List.not_mem_nil, or_false, forall_eq_or_imp, forall_eq, binds_data, binds_chain, binds_phase, binds_gc, Bool.false_eq_true, false_implies, forall_const, true_and, and_true] at hd
           obtain ⟨u, v, e, q1, z, q2⟩ := (H4.out (by simp [hd]))
           subst e
           go_simp
           exact hK _ _ ⟨t13, t14, t15, .tuple #[u, v, .int .i64 0], t45, t46, t47, t48, t49, t50, .int .i64 0, putsE, hb, od H0, od H1, od H2, od H3, od H4, od H5, od H6, odp H8, od H9, odN hne, odS HFS1, odS HFS2⟩
         · intro ls a W hd hsz hnd hI K hK
           obtain ⟨t13, t14, t15, t44, t45, t46, t47, t48, t49, t50, t51, rfl, hb, h0, h1, h2, h3, h4, h5, h6, h8, h9, hne, hfS1, hfS2⟩ := hI
           have H0 := Lib.hid h0
           have H1 := Lib.hid h1
           have H2 := Lib.hid h2
           have H3 := Lib.hid h3
           have H4 := Lib.hid h4
           have H5 := Lib.hid h5
           have H6 := Lib.hid h6
           have H8 := Lib.hid h8
           have H9 := Lib.hid h9
           have HFS1 := Lib.hid hfS1
           have HFS2 := Lib.hid hfS2
           clear hfS1 hfS2 h0 h1 h2 h3 h4 h5 h6 h8 h9
           subst hA
           simp only [puts_cons, puts_nil, Act.put, List.setIfInBounds_toArray, List.set_cons_zero, List.set_cons_succ]
           simp only [List.mem_cons, List.not_mem_nil, or_false, forall_eq_or_imp, forall_eq, binds_data, binds_chain, binds_phase, binds_gc, Bool.false_eq_true, false_implies, forall_const, true_and, and_true] at hd
           have hb0 := Below.refl W.heap.size W
           have HVN : VarI W.heap.size 0 (W.alloc (.cells #[.bool false, .slice none 0 0] 50)) := ⟨typ_fresh rfl, false, none, 0, 0, cell_new rfl rfl, cell_new rfl rfl, by simp [go_sem], by simp [go_sem], isInt_zero _⟩
           have hbb : Below W.heap.size W (W.alloc (.cells #[.bool false, .slice none 0 0] 50)) := bal hb0 _
           have hbc := hb.trans (hbb.mono hb.size)
           go_simp
           exact hK _ _ ⟨.pointer (some ⟨W.heap.size, 0, none⟩), t14, t15, t44, t45, t46, t47, t48, t49, t50, t51, putsE, hbc, od H0, od H1, odK H2 hbb, odT H3 hbb, odT H4 hbb, odK H5 hbb, odE H6 hbb, fun _ => ⟨W.heap.size, 0, rfl, hb.size, HVN, fun hk => absurd (HFS1.out hk.old) hnd⟩, odV H9 hbb, fun hh1 hh2 => by obtain ⟨bb, zz, e, q0, q1⟩ := H9.out hh2.old; rw [e]; intro e2; have := typ_lt q1.1; first | (simp at e2; done) | (simp at e2; omega), odS HFS1, odS HFS2⟩
         · intro ls a W hd hsz hnd hI K hK
           obtain ⟨t13, t14, t15, t44, t45, t46, t47, t48, t49, t50, t51, rfl, hb, h0, h1, h2, h3, h4, h5, h6, h8, h9, hne, hfS1, hfS2⟩ := hI
           have H0 := Lib.hid h0
           have H1 := Lib.hid h1
           have H2 := Lib.hid h2
           have H3 := Lib.hid h3
           have H4 := Lib.hid h4
           have H5 := Lib.hid h5
           have H6 := Lib.hid h6
           have H8 := Lib.hid h8
           have H9 := Lib.hid h9
           have HFS1 := Lib.hid hfS1
           have HFS2 := Lib.hid hfS2
           clear hfS1 hfS2 h0 h1 h2 h3 h4 h5 h6 h8 h9
           subst hA
           simp only [puts_cons, puts_nil, Act.put, List.setIfInBounds_toArray, List.set_cons_zero, List.set_cons_succ]
           simp only [List.mem_cons, List.not_mem_nil, or_false, forall_eq_or_imp, forall_eq, binds_data, binds_chain, binds_phase, binds_gc, Bool.false_eq_true, false_implies, forall_const, true_and, and_true] at hd
           have hb0 := Below.refl W.heap.size W
           have HVN : VarI W.heap.size 0 (W.alloc (.cells #[.bool false, .slice none 0 0] 50)) := ⟨typ_fresh rfl, false, none, 0, 0, cell_new rfl rfl, cell_new rfl rfl, by simp [go_sem], by simp [go_sem], isInt_zero _⟩
           have hbb : Below W.heap.size W (W.alloc (.cells #[.bool false, .slice none 0 0] 50)) := bal hb0 _
           have hbc := hb.trans (hbb.mono hb.size)
           go_simp
           exact hK _ _ ⟨t13, .pointer (some ⟨W.heap.size, 0, none⟩), t15, t44, t45, t46, t47, t48, t49, t50, t51, putsE, hbc, od H0, od H1, odK H2 hbb, odT H3 hbb, odT H4 hbb, odK H5 hbb, odE H6 hbb, odP H8 hbb, fun _ => ⟨W.heap.size, 0, rfl, hb.size, HVN⟩, fun hh1 hh2 => by obtain ⟨bb, zz, e, q0, q1, _⟩ := H8.out hh1.old; rw [e]; intro e2; have := typ_lt q1.1; first | (simp at e2; done) | (simp at e2; omega), odS HFS1, odS HFS2⟩
         · intro ls a W hd hsz hnd hI K hK
           obtain ⟨t13, t14, t15, t44, t45, t46, t47, t48, t49, t50, t51, rfl, hb, h0, h1, h2, h3, h4, h5, h6, h8, h9, hne, hfS1, hfS2⟩ := hI
           have H0 := Lib.hid h0
           have H1 := Lib.hid h1
           have H2 := Lib.hid h2
           have H3 := Lib.hid h3
           have H4 := Lib.hid h4
           have H5 := Lib.hid h5
           have H6 := Lib.hid h6
           have H8 := Lib.hid h8
           have H9 := Lib.hid h9
           have HFS1 := Lib.hid hfS1
           have HFS2 := Lib.hid hfS2
           clear hfS1 hfS2 h0 h1 h2 h3 h4 h5 h6 h8 h9
           subst hA
           simp only [puts_cons, puts_nil, Act.put, List.setIfInBounds_toArray, List.set_cons_zero, List.set_cons_succ]
           simp only [List.mem_cons, List.not_mem_nil, or_false, forall_eq_or_imp, forall_eq, binds_data, binds_chain, binds_phase, binds_gc, Bool.false_eq_true, false_implies, forall_const, true_and, and_true] at hd
           obtain ⟨b7, z, e, q0, q1, q2⟩ := (H8.out (by simp [hd]))
           have q31 := (H5.out (by simp [hd]))
           obtain ⟨n3, a3, l3, c3, rfl⟩ := q31.lit
           subst e
           have HV7 := Lib.hid q1
           obtain ⟨-, vn, va, vl, vc, v0, v1, v0f, v1f, -⟩ := q1
           have zv := cell_lt v0
           go_simp
           exact hK _ _ ⟨.pointer (some ⟨b7, 0, none⟩), t14, t15, t44, t45, t46, t47, t48, .agg #[.bool n3, .slice a3 l3 c3], t50, t51, putsE, bset (bset hb (p := ⟨b7, 0, none⟩) q0 _) (p := ⟨b7, 1, none⟩) q0 _, od H0, od H1, fun hh => (H2.out hh.old).put2 v0 v1 _ _, fun hh => by obtain ⟨u, v, e, q1, z, q2⟩ := H3.out hh.old; exact ⟨u, v, e, q1.put2 v0 v1 _ _, z, q2.put2 v0 v1 _ _⟩, fun hh => by obtain ⟨u, v, e, q1, z, q2⟩ := H4.out hh.old; exact ⟨u, v, e, q1.put2 v0 v1 _ _, z, q2.put2 v0 v1 _ _⟩, fun hh => (H5.out hh.old).put2 v0 v1 _ _, fun hh => by obtain ⟨z, q2⟩ := H6.out hh.old; exact ⟨z, q2.put2 v0 v1 _ _⟩, fun hh => ⟨b7, Z, rfl, q0, HV7.out.put q31, fun _ => rfl⟩, fun hh => by obtain ⟨b6, z6, e, r0, r1⟩ := H9.out hh.old; exact ⟨b6, z6, e, r0, VarI.putFar r1 HV7.out (fun e2 => hne (by simp [hd]) hh.old (by rw [e, e2])) _ _⟩, odN hne, fun _ => (by simp [hd] : Done ls 8).set, odS HFS2⟩
         · intro ls a W hd hsz hnd hI K hK
           obtain ⟨t13, t14, t15, t44, t45, t46, t47, t48, t49, t50, t51, rfl, hb, h0, h1, h2, h3, h4, h5, h6, h8, h9, hne, hfS1, hfS2⟩ := hI
           have H0 := Lib.hid h0
           have H1 := Lib.hid h1
           have H2 := Lib.hid h2
           have H3 := Lib.hid h3
           have H4 := Lib.hid h4
           have H5 := Lib.hid h5
           have H6 := Lib.hid h6
           have H8 := Lib.hid h8
           have H9 := Lib.hid h9
           have HFS1 := Lib.hid hfS1
           have HFS2 := Lib.hid hfS2
           clear hfS1 hfS2 h0 h1 h2 h3 h4 h5 h6 h8 h9
           subst hA
           simp only [puts_cons, puts_nil, Act.put, List.setIfInBounds_toArray, List.set_cons_zero, List.set_cons_succ]
           simp only [List.mem_cons, List.not_mem_nil, or_false, forall_eq_or_imp, forall_eq, binds_data, binds_chain, binds_phase, binds_gc, Bool.false_eq_true, false_implies, forall_const, true_and, and_true] at hd
           obtain ⟨b7, z, e, q0, q1⟩ := (H9.out (by simp [hd]))
           obtain ⟨zz, q31⟩ := (H6.out (by simp [hd]))
           obtain ⟨n3, a3, l3, c3, rfl⟩ := q31.lit
           subst e
           have HV7 := Lib.hid q1
           obtain ⟨-, vn, va, vl, vc, v0, v1, v0f, v1f, -⟩ := q1
           have zv := cell_lt v0
           go_simp
           exact hK _ _ ⟨t13, .pointer (some ⟨b7, 0, none⟩), t15, t44, t45, t46, t47, t48, t49, .agg #[.bool n3, .slice a3 l3 c3], t51, putsE, bset (bset hb (p := ⟨b7, 0, none⟩) q0 _) (p := ⟨b7, 1, none⟩) q0 _, od H0, od H1, fun hh => (H2.out hh.old).put2 v0 v1 _ _, fun hh => by obtain ⟨u, v, e, q1, z, q2⟩ := H3.out hh.old; exact ⟨u, v, e, q1.put2 v0 v1 _ _, z, q2.put2 v0 v1 _ _⟩, fun hh => by obtain ⟨u, v, e, q1, z, q2⟩ := H4.out hh.old; exact ⟨u, v, e, q1.put2 v0 v1 _ _, z, q2.put2 v0 v1 _ _⟩, fun hh => (H5.out hh.old).put2 v0 v1 _ _, fun hh => by obtain ⟨z, q2⟩ := H6.out hh.old; exact ⟨z, q2.put2 v0 v1 _ _⟩, fun hh => by obtain ⟨b6, z6, e, r0, r1, r2⟩ := H8.out hh.old; exact ⟨b6, z6, e, r0, VarI.putFar r1 HV7.out (fun e2 => hne hh.old (by simp [hd]) (by rw [e, e2])) _ _, fun hk => r2 hk.old⟩, fun hh => ⟨b7, _, rfl, q0, HV7.out.put q31⟩, odN hne, odS HFS1, fun _ => (by simp [hd] : Done ls 9).set⟩
         · intro ls a W hd hsz hnd hI K hK
           obtain ⟨t13, t14, t15, t44, t45, t46, t47, t48, t49, t50, t51, rfl, hb, h0, h1, h2, h3, h4, h5, h6, h8, h9, hne, hfS1, hfS2⟩ := hI
           have H0 := Lib.hid h0
           have H1 := Lib.hid h1
           have H2 := Lib.hid h2
           have H3 := Lib.hid h3
           have H4 := Lib.hid h4
           have H5 := Lib.hid h5
           have H6 := Lib.hid h6
           have H8 := Lib.hid h8
           have H9 := Lib.hid h9
           have HFS1 := Lib.hid hfS1
           have HFS2 := Lib.hid hfS2
           clear hfS1 hfS2 h0 h1 h2 h3 h4 h5 h6 h8 h9
           subst hA
           simp only [puts_cons, puts_nil, Act.put, List.setIfInBounds_toArray, List.set_cons_zero, List.set_cons_succ]
           simp only [List.mem_cons, List.not_mem_nil, or_false, forall_eq_or_imp, forall_eq, binds_data, binds_chain, binds_phase, binds_gc, Bool.false_eq_true, false_implies, forall_const, true_and, and_true] at hd
           go_simp
           exact hK _ _ ⟨t13, t14, t51, t44, t45, t46, t47, t48, t49, t50, t51, putsE, hb, od H0, od H1, od H2, od H3, od H4, od H5, od H6, odp H8, od H9, odN hne, odS HFS1, odS HFS2⟩
       · intro ls a W hdn hI
         obtain ⟨t13, t14, t15, t44, t45, t46, t47, t48, t49, t50, t51, rfl, hb, h0, h1, h2, h3, h4, h5, h6, h8, h9, -⟩ := hI
         have H11 := h8 (hdn 8 (by decide))
         obtain ⟨b7, z, rfl, q0, q1, q2⟩ := H11
         obtain rfl := q2 (hdn 10 (by decide))
         clear h0 h1 h2 h3 h4 h5 h6 h8 h9 hdn
         subst hA
         simp only [puts_cons, puts_nil, Act.put, List.setIfInBounds_toArray, List.set_cons_zero, List.set_cons_succ]
         have HF6 := Lib.hid (HF5.out.below lims_int hb)
         have HQ6 := Lib.hid (HQ5.out.keep hb)
         obtain ⟨-, fn, fa', fl, fc', f0, f1, -, -, fI⟩ := q1
         have zq := cell_lt f0
         have xc := HXC.out W hb
         obtain ⟨x0, x1, x2, x3, -, -⟩ := xc
         have zx := cell_lt x0
         have hbW := Below.refl W.heap.size W
         obtain ⟨nn1, aa1, ll1, cc1, nn2, aa2, ll2, cc2, hag, hnu, -⟩ := HQ6.out
         cases hag
         have UC := Lib.hid (fun V (q : Below W.heap.size W V) => mul_c _ _ ((L.getD j 0).num) z (k * (n + 1) + 1) (k * (n + 1) + 1) V (hnu.keep q) (fI.keep q) HBK.out.1 HBK.out.2 (by omega) (by omega))
         clear fI q2 q0 hmx DC MC HXC hnu
         go_wp2_with fail
         (with_reducible refine (UC.out _ ?_).mono ?_); (repeat (first|exact bzR _ _|exact hbW|refine bzD ?_|refine bzN ?_|refine bzS ?_|refine bzA ?_))
         rintro e w9 ⟨⟨u9, rfl, hu9⟩, hb9⟩
         have hk9 : Below W.heap.size W w9 := bthen bZ hb9
         have HF9 := Lib.hid (HF6.out.below lims_int hk9)
         have HU9 := Lib.hid hu9
         obtain ⟨n9, a9, l9, c9, rfl⟩ := hu9.lit
         clear UC hu9 hb9 x0 x1 x2 x3 f0 f1
         go_wp2_with (at_builtin; refine app_num elInt (by decide) lims_int (by rfl) (by rfl) HF9.out HU9.out (by rfl) (by rfl) (by omega) ?_)
         intro v' w8 hF8 _ _
         have HF8 := Lib.hid (hF8.congr' (f' := fun i => (L.getD i 0).num * (DD / ((L.getD i 0).den : Int))) fun i hi => by
          split
          · rename_i e; rw [e, HZE.out]; rfl
          · rfl)
         clear hF8
         go_wp2
         exact ⟨⟨j + 1, hlt, by go_num, HF8⟩, meas hlt (by go_num) rfl⟩
     · obtain rfl : n = j := by omega
       have hltJ : ¬ (n : Int) < (n : Int) := by omega
       have HD9 := Lib.hid (HD1.out.keep hbF)
       have HR9 := Lib.hid (HR1.out.keep hbF)
       have hB9 := bthen HBR.out hbF
       have HF9 := Lib.hid (hF.out.intBlk hnp)
       obtain ⟨-, dn, da, dl, dc, d0, d1, d0f, d1f, dI⟩ := HD9.out
       obtain ⟨-, rn, ra, rl, rc, r0, r1, r0f, r1f, -⟩ := HR9.out
       have zd := cell_lt d0
       have zr := cell_lt r0
       have HDI := Lib.hid dI
       clear dI hF
       have hne : ¬ w.heap.size = db := by omega
       have HFP := Lib.hid (fun u v => (HF9.out.put2 r0 r1 (by omega) u v).rebase (show w.heap.size ≤ w1.heap.size by omega))
       have HDP2 := Lib.hid (fun u v => HDI.out.put2 r0 r1 u v)
       have hb9 := bset (bset hB9 (p := ⟨w.heap.size, 0, none⟩) (Nat.le_refl _) (.bool dn)) (p := ⟨w.heap.size, 1, none⟩) (Nat.le_refl _) (.slice da dl dc)
       go_wp2
       go_region
       go_wp2
       refine bodyPost_ret (v := .tuple #[.slice fa n fc, .agg #[.bool dn, .slice da dl dc]]) (by simp [results, Tryz.results108, go_sem, *]) rfl ⟨⟨_, _, rfl, ?_, ?_⟩, hb9.drew⟩
       · rw [← HLE.out]; exact (HDP2.out _ _).keep (Below.refl _ _).drew
       · rw [← HLE.out]; exact (HFP.out _ _).keep (Below.refl _ _).drew
end
end Go.Proofs.YtbmaffijncapiaaGreatDoor
