/- Texts of this seat, laid together: MxN, TxtL, TxtI. Each opens with its own remark, which says what it proves, and under which conditions. -/
import Derived.Test.YtkejdmdldhlkgaaDoorP21
import Derived.Test.YtkejdmdldhlkgaaDoorP17
import Derived.Test.YtkejdmdldhlkgaaDoorP18
import Derived.Test.YtkejdmdldhlkgaaDoorP13
import Derived.Test.YtkejdmdldhlkgaaDoorP11
import Derived.Deep.DeepFit
import Derived.Test.YtkejdmdldhlkgaaDoorP15
import Derived.Laws.RangeString
import Derived.Lib.OthersKept
set_option linter.unusedVariables false
set_option linter.unusedSimpArgs false
/- matrix: Inverse's function value. -/
namespace Go.Proofs.YtkejdmdldhlkgaaDoor
open Num
open Go.ChangeShapes Go.WideShapes Go.ChangeAt Go.RowKit
set_option linter.unusedVariables false
set_option linter.unusedSimpArgs false
attribute [local go_sem ↓] Go.wp_at_zero Go.wp_at_succ
theorem IsInt.setT {w : World} {v : Value} {z : Int} {p : Addr} (h : IsInt w v z) (ht : typOf w p.block = some 37) (u : Value) : IsInt (w.setCell p u) v z :=
  h.lim (((Kp.refl (fun t => t ≠ 37) w).set (p := p) (fun t ht' => by rw [ht] at ht'; cases ht'; exact fun hh => hh rfl) u).lim (by decide))
theorem IsInt.al {w : World} {v : Value} {z : Int} (h : IsInt w v z) (o : Obj) : IsInt (w.alloc o) v z := h.keep (bal (Below.refl _ _) o)
theorem IsInt.dr {w : World} {v : Value} {z : Int} (h : IsInt w v z) : IsInt w.drew v z := h.keep (Below.refl _ _).drew
set_option maxRecDepth 100000 in
set_option maxHeartbeats 8000000 in
theorem inv1_c (bm bo : Nat) (g : Grid) (n m k : Nat) (c : Int) (w : World) (hg : BoxM bm w g) (hc : VarI bo c w) (lg : g.length = n) (rg : Rct g m) (kg : BdM k g) (bc : Bd k c) (hk : k ≤ 17179869184) (hz : c ≠ 0) :
    FnF (fun i j => gat g i j / c) n m 54 #[.pointer (some ⟨bm, 0, none⟩), .pointer (some ⟨bo, 0, none⟩)] w := by
  intro W i j hi hj hW
  obtain ⟨c1, gb, go, rb, ro, rc, n1, a1, l1, k1, g0, g1, g2, g3, gi⟩ := (hg.keep hW).elem rg (by omega : i < g.length) hj
  rw [lg] at g0
  obtain ⟨-, nc, ac, lc, cc, x0, x1, -, -, xI⟩ := hc.keep hW
  have dc := fun V (q : Below W.heap.size W V) => divmod_c (.agg #[.bool n1, .slice a1 l1 k1]) (.agg #[.bool nc, .slice ac lc cc]) (gat g i j) c k V (gi.keep q) (xI.keep q) (kg i j) bc hk hz
  obtain ⟨q, hq⟩ : ∃ q, gat g i j / c = q := ⟨_, rfl⟩
  have HQ := Lib.hid hq
  rw [hq] at dc
  have DC := Lib.hid dc
  clear hg gi lg rg kg hW hc bc dc xI hz hq
  have hiI : (i : Int) < (n : Int) := by omega
  have hjI : (j : Int) < (m : Int) := by omega
  have z0 := cell_lt g0; have z1 := cell_lt g1; have z2 := cell_lt g2; have z3 := cell_lt x0
  have hB := Below.refl W.heap.size W
  show Calls Tryd.prog 54 #[.int .i64 (i : Nat), .int .i64 (j : Nat), .pointer (some ⟨bm, 0, none⟩), .pointer (some ⟨bo, 0, none⟩)] W _
  dsimp only
  rw [HQ.out]
  go_enter Tryd.func54, Tryd.ntmps54
  go_wp2
  refine wp_name fun w1 hW1 => ?_
  have hBc : Below W.heap.size W w1 := by rw [hW1]; repeat (first | exact Below.refl _ _ | exact hB | refine Below.drew ?_ | refine below_drewN ?_ _ | refine bset ?_ (by simp <;> omega) _ | refine bal ?_ _)
  have HR1 := Lib.hid (show w1.cell? ⟨W.heap.size, 0, none⟩ = some (.bool false) ∧ w1.cell? ⟨W.heap.size, 1, none⟩ = some (.slice none 0 0) ∧ w1.frozen? ⟨W.heap.size, 0, none⟩ = false ∧ w1.frozen? ⟨W.heap.size, 1, none⟩ = false from by rw [hW1]; simp [go_sem])
  clear hW1
  replace g0 := bkeep hBc g0
  replace g1 := bkeep hBc g1
  replace g2 := bkeep hBc g2
  replace g3 := bkeep hBc g3
  replace x0 := bkeep hBc x0
  replace x1 := bkeep hBc x1
  replace z0 := cell_lt g0; replace z1 := cell_lt g1; replace z2 := cell_lt g2; replace z3 := cell_lt x0
  go_cut [7] (fun s7 wx => ∃ qb, s7 = .pointer (some ⟨qb, 0, none⟩) ∧ Hid (VarI qb q wx) ∧ Below w1.heap.size w1 wx)
  case first =>
    have hBj := Below.refl w1.heap.size w1
    have HS := Lib.hid (show ∀ V, Below w1.heap.size w1 V → V.cell? ⟨bm, 0, none⟩ = some (.slice (some ⟨gb, go, none⟩) n c1) ∧ V.cell? ⟨gb, go + i, none⟩ = some (.slice (some ⟨rb, ro, none⟩) m rc) ∧ V.cell? ⟨rb, ro + j * 2, none⟩ = some (.bool n1) ∧ V.cell? ⟨rb, ro + j * 2 + 1, none⟩ = some (.slice a1 l1 k1) ∧ V.cell? ⟨bo, 0, none⟩ = some (.bool nc) ∧ V.cell? ⟨bo, 1, none⟩ = some (.slice ac lc cc) from fun V q => ⟨bkeep q g0, bkeep q g1, bkeep q g2, bkeep q g3, bkeep q x0, bkeep q x1⟩)
    go_region_held3 (fun V => V.cell? ⟨bm, 0, none⟩ = some (.slice (some ⟨gb, go, none⟩) n c1) ∧ V.cell? ⟨gb, go + i, none⟩ = some (.slice (some ⟨rb, ro, none⟩) m rc) ∧ V.cell? ⟨rb, ro + j * 2, none⟩ = some (.bool n1) ∧ V.cell? ⟨rb, ro + j * 2 + 1, none⟩ = some (.slice a1 l1 k1) ∧ V.cell? ⟨bo, 0, none⟩ = some (.bool nc) ∧ V.cell? ⟨bo, 1, none⟩ = some (.slice ac lc cc))
      (first | (refine HS.out _ ?_; (repeat' (first | exact Below.refl _ _ | exact hBj | refine Below.drew ?_ | refine below_drewN ?_ _ | refine bal ?_ _ | refine bset ?_ ?_ _ | exact hla1 | exact Nat.le_trans hla1 (Nat.le_succ _) | exact Nat.le_refl _ | exact Nat.le_succ _)); done) | fail)
      (first
      | (go_at_call 52; refine (DC.out _ (bthen hBc ?_)).mono ?_; (repeat (first | exact Below.refl _ _ | exact hBj | refine Below.drew ?_ | refine below_drewN ?_ _ | refine bset ?_ (by simp <;> omega) _ | refine bal ?_ _)); rintro e w11 ⟨⟨u11, v11, rfl, hu11, hv11⟩, hb11⟩; (have hBd : Below w1.heap.size w1 w11 := bthen (by repeat (first | exact Below.refl _ _ | exact hBj | refine Below.drew ?_ | refine below_drewN ?_ _ | refine bset ?_ (by simp <;> omega) _ | refine bal ?_ _)) hb11; clear hBj; have hBj := hBd; clear hBd); have hc11 := (bcell hb11).1; have hf11 := (bcell hb11).2; have ht11 := tcell hb11; have hla1 := hBj.size; have hs11 := hb11.size; (try simp [go_sem] at hs11); (try have qa : w1.heap.size < w11.heap.size := by omega); (try have qb : w1.heap.size + 1 < w11.heap.size := by omega); have HU11 := Lib.hid hu11; obtain ⟨n11, a11, c11, l11, rfl, -⟩ := hu11; obtain ⟨n12, a12, c12, l12, rfl, -⟩ := hv11; unfold iv at *)
      | fail)
    all_goals
      go_wp2_with fail
      go_meet
      refine (fun hbx => ⟨_, rfl, Lib.hid ⟨?_, n11, a11, l11.length, c11, ?_, ?_, ?_, ?_, ?_⟩, hbx⟩ : Below w1.heap.size w1 _ → _) ?_
      all_goals first
        | (simp (disch := (first | (simp; done) | (simp; omega) | omega)) only [typ_set, typ_alloc_eq, typ_alloc_lt, ht11, typ_drew]; done)
        | (simp [go_sem, *]; done)
        | ((repeat' (first | exact Below.refl _ _ | exact hBj | refine Below.drew ?_ | refine below_drewN ?_ _ | refine bal ?_ _ | refine bset ?_ ?_ _ | exact hla1 | exact Nat.le_trans hla1 (Nat.le_succ _) | exact Nat.le_refl _ | exact Nat.le_succ _)); done)
        | ((repeat' (first | exact HU11.out | refine IsInt.al ?_ _ | refine IsInt.dr ?_ | refine IsInt.setT ?_ ?_ _)) <;> (simp (disch := (first | (simp; done) | (simp; omega) | omega)) only [typ_set, typ_alloc_eq, typ_alloc_lt, ht11, typ_drew]; done))
        | ((repeat (refine cell_far ?_ ?b _; case b => (first | (simp; done) | (simp; omega)))); (first | (refine cell_here (v := .bool false) ?_ _; (repeat (refine cell_far ?_ ?b _; case b => (first | (simp; done) | (simp; omega)))); (simp [go_sem, *]; done)) | (refine cell_here (v := .slice none 0 0) ?_ _; (repeat (refine cell_far ?_ ?b _; case b => (first | (simp; done) | (simp; omega)))); (simp [go_sem, *]; done))))
  case rest =>
    obtain ⟨qb, rfl, hX, hbx⟩ := hcut
    have hBW := bthen hBc hbx
    have r0f := bkeepf hbx HR1.out.1 HR1.out.2.2.1
    have r1f := bkeepf hbx HR1.out.2.1 HR1.out.2.2.2
    have r0 := bkeep hbx HR1.out.1
    have r1 := bkeep hbx HR1.out.2.1
    obtain ⟨-, nq, aq, lq, cq, q0, q1, -, -, qI⟩ := hX.out
    have hp := Lib.hid (qI.put2 r0 r1)
    have zq := cell_lt q0
    have zr := cell_lt r0
    clear qI hX HR1 g0 g1 g2 g3 x0 x1 DC
    go_wp2
    refine bodyPost_ret (v := .agg #[.bool nq, .slice aq lq cq]) (by simp [results, Tryd.results54, go_sem, *]) rfl ⟨⟨_, rfl, hp.out _ _⟩, ?_⟩
    repeat (first | exact Below.refl _ _ | exact hBW | refine Below.drew ?_ | refine below_drewN ?_ _ | refine bset ?_ (by simp <;> omega) _ | refine bal ?_ _)
end Go.Proofs.YtkejdmdldhlkgaaDoor

/- limb: Text. -/
namespace Go.Proofs.YtkejdmdldhlkgaaDoor
open Num
open Go.ChangeShapes Go.WideShapes Go.ChangeAt Go.RowKit
set_option linter.unusedVariables false
set_option linter.unusedSimpArgs false
theorem app32l {ops : Array Oper} {rest : List Oper} {o : Oper} {a : Act} {Q : Exit → Act → World → Prop} {w0 wr : World} {v : Value} {L X : List Nat} {t : TypeId} (hgd : o.guard = none) {s x : Operand}
    (ho : o.op = .call { callee := .builtin .append, args := #[s, x], argTypes := #[35, 35] }) (hO : Own32 w0 wr v L) (hs : a.eval s = v)
    {c : Nat} (hx : a.eval x = .slice (some ⟨wr.heap.size, 0, none⟩) X.length c) (hn : L.length + X.length ≤ 1099511627776)
    (h : ∀ v' w', Own32 w0 w' v' (L ++ X) → (∀ (ad : Option Addr) (cd : Nat) (M : List Nat), U32 wr ad cd M → (∀ g f, ad = some ⟨g, f, none⟩ → v.ownBlock ≠ some g) → U32 w' ad cd M) → wpList Tryd.prog ops Q rest (a.put o.dst v') w') : wpList Tryd.prog ops Q (o :: rest) a (wr.alloc (.cells (cel X).toArray t)) := by
  obtain ⟨i, z, hi, hz, hsize, hby, hzs⟩ := el32.info
  refine wpList_append_own _ hgd s x 35 ho w0.heap.size 64 i z 1 4 el32.ht hi hz hsize hby hzs el32.pos v L.length (cel L) hs (hO.1.alloc _) ⟨wr.heap.size, 0, none⟩ X.length c (cel X) hx (by rw [cel_len, Nat.mul_one]) (cells_new wr _ t) (cel_one X) (by unfold maxLen; omega) (by omega) (by have := hO.2.size; simp; omega) ?_
  intro v' w' hown hg _
  have ho : Out (fun k => v.ownBlock = some k) wr w' := ((Out.refl _ wr).alloc _).grown hg fun k hk _ => hk
  exact h v' w' ⟨by rw [cel_app, List.length_append]; exact hown, below_append (wr := wr) (bal hO.2 _) (hO.1.alloc _) hg⟩ fun ad cd M hu hne => hu.okeep ho fun q f e hq => hne q f e hq
theorem Bld.keep {B b : Nat} {l : List UInt8} {w w' : World} (h : Bld B b l w) (hb : Below w.heap.size w w') : Bld B b l w' := by
  have key : ∀ p, Lib.BuilderAt 98 5 B b p (Lib.byteCells l) w → Lib.BuilderAt 98 5 B b p (Lib.byteCells l) w' := by
    rintro p ⟨h1, v, h2, h3, h4⟩
    exact ⟨h1, v, (hb.block b (Array.getElem?_eq_some_iff.1 h2).1).trans h2, own_below (w0 := w) h3 hb, h4⟩
  rcases h with h | h
  · exact .inl (key _ h)
  · exact .inr (key _ h)
theorem Bld.new {w : World} {b : Nat} (hb : b = w.heap.size) : Bld b b [] (w.alloc (.cells #[.pointer none, .slice none 0 0] 98)) := by
  subst hb
  exact .inl ⟨Nat.le_refl _, .slice none 0 0, (MapKept.heap_alloc w _).1, World.ownsRow_nil _ _ _ _, by simp [Value.ownBlock]⟩
theorem pcs_len (k : Nat) : ∀ n, n < 2 ^ k → (pcs n).length ≤ k := by
  induction k with
  | zero => intro n h; obtain rfl : n = 0 := by simpa using h
            rw [pcs_zero]; simp
  | succ k ih =>
    intro n h
    by_cases h0 : 0 < n
    · rw [pcs_pos h0]
      have := ih (n / 1000000000) (by rw [Nat.pow_succ] at h; omega)
      simp; exact this
    · obtain rfl : n = 0 := by omega
      rw [pcs_zero]; simp
theorem pcs_bound {l : List Nat} (hl : Limbs l) (h1 : l.length ≤ 67108865) {P Q : List Nat} (h : pcs (val l) = P ++ Q) : P.length ≤ 2147483680 := by
  have h2 := val_lt hl
  rw [BB_pow] at h2
  have h3 := pcs_len _ _ h2
  rw [h, List.length_append] at h3
  omega
/-- what nine bytes hold when j noughts are left -/
def Z9 (j m p : Nat) : List UInt8 := List.replicate j 0 ++ asc (padD m p)
theorem Z9_len (j m p : Nat) : (Z9 j m p).length = j + m := by simp [Z9, asc_len, padD_len]
theorem rep_set (j : Nat) (T : List UInt8) (d : UInt8) : (List.replicate (j + 1) 0 ++ T).set j d = List.replicate j 0 ++ d :: T := by
  induction j with
  | zero => rfl
  | succ j ih =>
    rw [List.replicate_succ, List.cons_append, List.set_cons_succ, ih]; rfl
theorem Z9_step (j m p : Nat) : (Z9 (j + 1) m p).set j (dig (p / 10 ^ m % 10)) = Z9 j (m + 1) p := by
  unfold Z9
  rw [rep_set, padD_snoc, asc_append]; rfl
theorem Z9_end (p : Nat) : Z9 0 9 p = asc (padD 9 p) := rfl
theorem lowP_top {P : List Nat} {k : Nat} (h : k + 1 = P.length) : lowP (P.drop k) = lowD (P.getD k 0) := by
  have e : P.drop k = [P.getD k 0] := by
    rw [List.drop_eq_getElem_cons (by omega), List.drop_eq_nil_of_le (by omega)]
    simp [List.getElem?_eq_getElem (show k < P.length by omega)]
  rw [e]; rfl
theorem lowP_low {P : List Nat} {k : Nat} (h : k + 1 < P.length) : lowP (P.drop k) = padD 9 (P.getD k 0) ++ lowP (P.drop (k + 1)) := by
  rw [List.drop_eq_getElem_cons (by omega), lowP_cons (by intro h0; have := congrArg List.length h0; simp at this; omega)]
  simp [List.getElem?_eq_getElem (show k < P.length by omega)]
theorem lowP_len : ∀ L : List Nat, (∀ x ∈ L, x < 1000000000) → (lowP L).length ≤ 9 * L.length
  | [], _ => by simp [lowP]
  | [p], h => by
    have := (padD_low 9 p (h p (by simp))).2
    simpa [lowP] using this
  | p :: q :: L, h => by
    have := lowP_len (q :: L) (fun x hx => h x (List.mem_cons_of_mem _ hx))
    rw [lowP_cons (by simp), List.length_append, padD_len]
    simp only [List.length_cons] at this ⊢
    omega
theorem zeroArr9 : ∀ w, (zeroValue 115).run Tryd.prog w = .ok (.agg #[.int .u8 0, .int .u8 0, .int .u8 0, .int .u8 0, .int .u8 0, .int .u8 0, .int .u8 0, .int .u8 0, .int .u8 0]) w := fun w => by kernel_rfl
/-- nine bytes in a block -/
structure Arr9 (w : World) (g : Nat) (Z : List UInt8) : Prop where
  cell : ∀ j, j < 9 → w.cell? ⟨g, j, none⟩ = some (.int .u8 ((Z.getD j 0).toNat : Nat))
  free : ∀ j, w.frozen? ⟨g, j, none⟩ = false
theorem Arr9.new (w : World) (p : Nat) : Arr9 (w.alloc (.cells #[.int .u8 0, .int .u8 0, .int .u8 0, .int .u8 0, .int .u8 0, .int .u8 0, .int .u8 0, .int .u8 0, .int .u8 0] 115)) w.heap.size (Z9 9 0 p) := by
  have hz : ∀ j, (Z9 9 0 p).getD j 0 = 0 := fun j => by
    simp [Z9, asc, padD]
    exact match j with | 0 => rfl | 1 => rfl | 2 => rfl | 3 => rfl | 4 => rfl | 5 => rfl | 6 => rfl | 7 => rfl | 8 => rfl | n + 9 => rfl
  refine ⟨fun j hj => ?_, fun j => by rw [World.frozen?_alloc_at (hn := by simp)]⟩
  rw [hz]
  refine cell_new rfl ?_
  have : j = 0 ∨ j = 1 ∨ j = 2 ∨ j = 3 ∨ j = 4 ∨ j = 5 ∨ j = 6 ∨ j = 7 ∨ j = 8 := by omega
  rcases this with rfl | rfl | rfl | rfl | rfl | rfl | rfl | rfl | rfl <;> rfl
theorem Arr9.set {w : World} {g : Nat} {Z : List UInt8} (h : Arr9 w g Z) (hZ : Z.length = 9) {k : Nat} (hk : k < 9) (x : UInt8) : Arr9 (w.setCell ⟨g, k, none⟩ (.int .u8 (x.toNat : Nat))) g (Z.set k x) := by
  refine ⟨fun j hj => ?_, fun j => by rw [World.frozen?_setCell]; exact h.free j⟩
  by_cases e : k = j
  · subst e
    rw [cell_here (h.cell k hk)]
    simp [hZ, hk]
  · rw [cell_far (h.cell j hj) (by first | (simp; done) | (simp; exact e))]
    simp [List.getElem?_set_ne e]

set_option maxRecDepth 100000 in
set_option maxHeartbeats 8000000 in
theorem limbText_c (a : Option Addr) (ca : Nat) (l : List Nat) (w : World) (ha : U32 w a ca l) (h1 : l.length ≤ 67108865) :
    Calls Tryd.prog 58 #[.slice a l.length ca] w fun e w' => e = .returned (.string ⟨(natTxt (val l)).toArray⟩) ∧ Below w.heap.size w w' := by
  have nc := limbNorm_c a ca l w ha (by omega)
  have HTV := Lib.hid (val_trim l)
  have hTN := trim_nrm l
  have hTl := Nat.le_trans (trim_len l) h1
  have HPL := Lib.hid (show ∀ P Q, pcs (val l) = P ++ Q → P.length ≤ 2147483680 from fun P Q h => pcs_bound ha.2.2.1 h1 h)
  generalize trimL l = T at *
  go_enter Tryd.func58, Tryd.ntmps58
  go_wp2_with fail
  refine nc.mono ?_
  rintro e w0 ⟨⟨a0, rfl, hu0⟩, hb0⟩
  clear nc
  go_wp2
  go_loopg [3, 4] (val T) (fun gk d v wr => ∃ (P : List Nat) (ad : Option Addr) (cd : Nat) (L : List Nat), v = .slice ad L.length cd ∧ U32 wr ad cd L ∧ Nrm L ∧ L.length ≤ 67108865 ∧ gk = val L ∧ Own32 w0 wr d P ∧ pcs (val l) = P ++ pcs (val L))
  case atStart => exact ⟨[], a0, _, T, rfl, hu0, hTN, hTl, rfl, Own32.nil (Below.refl _ _), by rw [HTV.out]; rfl⟩
  case round =>
    obtain ⟨P, ad, cd, L, rfl, hu, hn, hlm, hgk, hO, hP⟩ := hrel
    have HP := Lib.hid (And.intro hgk hP)
    clear hgk hP
    have hPl : P.length ≤ 2147483680 := HPL.out _ _ HP.out.2
    by_cases hL : 0 < L.length
    · have hLz : (0 : Int) < (L.length : Int) := by omega
      have hv0 : 0 < val L := by
        have h1 := nrm_val_pos hn (List.length_pos_iff.1 hL)
        have : 0 < BB ^ (L.length - 1) := Nat.pow_pos BB_pos
        omega
      have dc := fun (W : World) (h : Below wr.heap.size wr W) => divSmallF_c ad cd L 1000000000 W (hu.keep h) (by omega) (by omega) (by unfold BB; omega)
      have HN := Lib.hid (show pcs (val L) = val L % 1000000000 :: pcs (val L / 1000000000) from pcs_pos hv0)
      have HLT := Lib.hid (show val L / 1000000000 < val L by omega)
      have hr9 : val L % 1000000000 < 1000000000 := Nat.mod_lt _ (by omega)
      have HQL := Lib.hid (show ∀ Q : List Nat, Nrm Q → val Q = val L / 1000000000 → Q.length ≤ 67108865 from fun Q hQ hv => by
        refine Nat.le_trans (nrm_len_le (k := L.length) hQ ?_) hlm
        have := val_lt hu.2.2.1
        omega)
      go_wp2_with fail
      refine (dc _ (Below.refl _ _)).mono ?_
      rintro e w2 ⟨⟨u, rfl, hq, hqf⟩, hb2⟩
      have hO2 := hO.below hb2
      have HLT2 := Lib.hid hO.1.lt
      have HQF := Lib.hid hqf
      clear dc hO hu hqf
      obtain ⟨aq, nq, Lq, rfl, rfl, hqu, hqn, hqv⟩ := hq
      have hLqm := HQL.out Lq hqn hqv
      have HV := Lib.hid hqv
      clear hqv
      obtain ⟨r, hr⟩ : ∃ r, r = val L % 1000000000 := ⟨_, rfl⟩
      rw [← hr] at hr9
      have HR := Lib.hid hr
      rw [← hr]
      clear hr
      go_wp2_with (at_builtin; refine app32l (X := [r]) rfl rfl hO2 rfl rfl ?_ ?_; (simp; omega); intro v' w3 hO3 hlim3)
      go_roundg (val L / 1000000000)
      case measure => rw [HP.out.1]; exact HLT.out
      case rel => exact ⟨P ++ [r], aq, _, Lq, rfl, hlim3 aq _ Lq hqu (fun g f e h => by have h1 := (HLT2.out g h).2; have h2 := HQF.out g f _ _ (by rw [e]); omega), hqn, hLqm, HV.out.symm, hO3, by rw [HV.out, HP.out.2, HN.out, HR.out]; simp⟩
    · obtain rfl : L = [] := List.length_eq_zero_iff.1 (by omega)
      have hPN := HP.out.2
      rw [show val [] = 0 from rfl, pcs_zero, List.append_nil] at hPN
      have hB2 := bthen hb0 hO.2
      by_cases hP0 : P = []
      · subst hP0
        have hN0 : val l = 0 := by
          apply Nat.eq_zero_of_not_pos; intro h
          exact pcs_ne h hPN
        have HE := Lib.hid (show natTxt (val l) = [48] by rw [hN0]; rfl)
        rcases hO.ex with ⟨a9, c9, rfl⟩
        clear hPN hN0 hu hO
        simp only [List.length_nil]
        go_wp2
        go_ret
        exact ⟨by rw [HE.out]; rfl, hB2⟩
      · have hN0 : 0 < val l := by
          apply Nat.pos_of_ne_zero; intro h
          rw [h, pcs_zero] at hPN
          exact hP0 hPN.symm
        have HPN := Lib.hid hPN
        have HN0 := Lib.hid hN0
        have hPz : ((P.length : Int) == 0) = false := by rw [beq_eq_false_iff_ne]; have := List.length_pos_iff.2 hP0; omega
        obtain ⟨a9, c9, rfl, hPU⟩ := hO.u32 (L := P) (fun x hx => by
          have := pcs_lt (val l) x (by rw [HPN.out]; exact hx)
          unfold BB; omega)
        rcases hPU.2.2.2 with h0 | ⟨bp, op, rfl, hPc⟩
        · exact absurd h0 hP0
        clear hPN hN0 hu hO hPU
        have HPL9 := Lib.hid (show ∀ x ∈ P, x < 1000000000 from fun x hx => pcs_lt (val l) x (by rw [HPN.out]; exact hx))
        have HLST := Lib.hid (show ∀ h : P ≠ [], 0 < P.getLast h from by rw [← HPN.out]; exact pcs_last (val l))
        have HE := Lib.hid (show natTxt (val l) = asc (lowP P) by rw [← HPN.out, lowP_pcs]; unfold natTxt; rw [if_neg (by have := HN0.out; omega)])
        have hza := zeroArr9
        have hbp := cell_lt (hPc 0 (List.length_pos_iff.2 hP0))
        simp only [List.length_nil]
        go_wp2
        go_loopw [9] (fun x wx => ∃ k : Nat, k ≤ P.length ∧ x = .int .i64 ((k : Int) - 1) ∧ Bld wr.heap.size wr.heap.size (asc (lowP (P.drop k))) wx ∧ Below wr.heap.size wr wx ∧ wr.heap.size < wx.heap.size) (fun x _ => (intOf x + 1).toNat)
        case atStart => exact ⟨P.length, Nat.le_refl _, rfl, by rw [List.drop_length]; exact Bld.new rfl, bal (Below.refl _ _) _, by simp⟩
        case round =>
          rename World => wx
          obtain ⟨k, hk, rfl, hBd, hBx, hsx⟩ := hrel
          cases k with
          | zero =>
            clear hza
            rw [List.drop_zero] at hBd
            go_wp2_with fail
            refine (bstring_c wr.heap.size wr.heap.size _ _ hBd hBx.size).mono ?_
            rintro e w6 ⟨rfl, hb6⟩
            go_wp2
            go_ret
            exact ⟨by rw [HE.out]; rfl, bthen hB2 (hBx.trans hb6)⟩
          | succ k =>
            have hp9 : P.getD k 0 < 1000000000 := HPL9.out _ (by rw [List.getD_eq_getElem?_getD, List.getElem?_eq_getElem (by omega)]; exact List.getElem_mem _)
            have HTOP := Lib.hid (show k + 1 = P.length → 0 < P.getD k 0 from fun h => by
              have h2 := HLST.out hP0
              rw [List.getLast_eq_getElem] at h2
              rw [List.getD_eq_getElem?_getD, List.getElem?_eq_getElem (by omega)]
              have e : P.length - 1 = k := by omega
              simp only [e] at h2
              exact h2)
            have HTP := Lib.hid (show k + 1 = P.length → lowP (P.drop k) = lowD (P.getD k 0) from fun h => lowP_top h)
            have HLO := Lib.hid (show k + 1 < P.length → lowP (P.drop k) = padD 9 (P.getD k 0) ++ lowP (P.drop (k + 1)) from fun h => lowP_low h)
            have q0 := bkeep hBx (hPc k (by omega))
            generalize P.getD k 0 = p at *
            have hkl : (k : Int) < (P.length : Int) := by omega
            have q1 := cell_alloc q0 (.cells #[.int .u8 0, .int .u8 0, .int .u8 0, .int .u8 0, .int .u8 0, .int .u8 0, .int .u8 0, .int .u8 0, .int .u8 0] 115)
            rw [show (((k + 1 : Nat) : Int) - 1) = (k : Int) from by omega]
            go_wp2
            go_loopw [11, 12] (fun xv kv wi => ∃ j m : Nat, j + m = 9 ∧ kv = .int .i64 ((j : Int) - 1) ∧ xv = .int .u32 ((p / 10 ^ m : Nat) : Int) ∧ Arr9 wi wx.heap.size (Z9 j m p) ∧ Below wx.heap.size wx wi ∧ wx.heap.size < wi.heap.size) (fun _ kv _ => (intOf kv + 1).toNat)
            case atStart => exact ⟨9, 0, rfl, rfl, by simp, Arr9.new wx p, bal (Below.refl _ _) _, by simp⟩
            case round =>
              rename World => wi
              obtain ⟨j, m, hjm, rfl, rfl, hA, hBi, hsi⟩ := hrel
              cases j with
              | zero =>
                obtain rfl : m = 9 := by omega
                have hBy : Bld wr.heap.size wr.heap.size (asc (lowP (P.drop (k + 1)))) wi := hBd.keep hBi
                have hsl : (convert 76 9 (.slice (some ⟨wx.heap.size, 0, none⟩) 9 9)).run Tryd.prog wi = .ok (.string ⟨(asc (padD 9 p)).toArray⟩) wi := by
                  have hl9 : (asc (padD 9 p)).length = 9 := by rw [asc_len, padD_len]
                  have := run_convert_bytes_back (P := Tryd.prog) wi 76 9 5 ⟨wx.heap.size, 0, none⟩ 9 (asc (padD 9 p)) Tryd.underlying76 Tryd.underlying5 Tryd.underlying9 (fun j hj => by
                    have h := hA.cell j (by omega)
                    rw [Z9_end] at h
                    unfold Addr.add
                    split
                    · subst_vars; simpa [hj] using h
                    · simpa [hj] using h)
                  rwa [hl9] at this
                have hBw := bthen hBx hBi
                clear hA hBi hBd hza q0 q1
                have hsw := hBw.size
                have hll : (asc (lowP (P.drop (k + 1)))).length ≤ 19327353120 := by
                  have h1 := lowP_len (P.drop (k + 1)) (fun x hx => HPL9.out x (List.mem_of_mem_drop hx))
                  rw [asc_len]
                  have h2 : (P.drop (k + 1)).length ≤ P.length := by rw [List.length_drop]; omega
                  omega
                by_cases hk1 : k + 1 = P.length
                · have ht : ((k : Int) == (P.length : Int) - 1) = true := by rw [beq_iff_eq]; omega
                  have HEQ := Lib.hid (show asc (lowP (P.drop (k + 1))) ++ asc (lowD p) = asc (lowP (P.drop k)) by
                    rw [HTP.out hk1, List.drop_eq_nil_of_le (by omega)]; rfl)
                  have htr := fun W => trimLeft_c ⟨(asc (padD 9 p)).toArray⟩ W
                  rw [show Lib.trimLeftB (ByteArray.mk (asc (padD 9 p)).toArray).data.toList 48 = asc (lowD p) from asc_pad_top (HTOP.out hk1) hp9] at htr
                  have hld : (asc (lowD p)).length ≤ 9 := by rw [asc_len]; exact (padD_low 9 p hp9).2
                  clear hk1
                  generalize asc (padD 9 p) = tx at *
                  generalize asc (lowD p) = ty at *
                  generalize asc (lowP (P.drop (k + 1))) = lx at *
                  go_wp2_with fail
                  refine (htr _).mono ?_
                  rintro e w5 ⟨rfl, rfl⟩
                  clear htr
                  go_wp2_with fail
                  refine (bwrite_c wr.heap.size wr.heap.size lx ⟨ty.toArray⟩ _ hBy (by show lx.length + ty.length ≤ _; omega) hsw).mono ?_
                  rintro e w6 ⟨rfl, hBz, hb6⟩
                  go_wp2
                  exact ⟨⟨k, by omega, by go_num, by rw [← HEQ.out]; exact hBz, hBw.trans hb6, by have := hb6.size; omega⟩, by simp [intOf]⟩
                · have ht : ((k : Int) == (P.length : Int) - 1) = false := by rw [beq_eq_false_iff_ne]; omega
                  have HEQ := Lib.hid (show asc (lowP (P.drop (k + 1))) ++ asc (padD 9 p) = asc (lowP (P.drop k)) by
                    rw [HLO.out (by omega), asc_append])
                  have hld : (asc (padD 9 p)).length ≤ 9 := by rw [asc_len, padD_len]; omega
                  clear hk1
                  generalize asc (padD 9 p) = ty at *
                  generalize asc (lowP (P.drop (k + 1))) = lx at *
                  go_wp2_with fail
                  refine (bwrite_c wr.heap.size wr.heap.size lx ⟨ty.toArray⟩ _ hBy (by show lx.length + ty.length ≤ _; omega) hsw).mono ?_
                  rintro e w6 ⟨rfl, hBz, hb6⟩
                  go_wp2
                  exact ⟨⟨k, by omega, by go_num, by rw [← HEQ.out]; exact hBz, hBw.trans hb6, by have := hb6.size; omega⟩, by simp [intOf]⟩
              | succ j =>
                have HS := Lib.hid (Z9_step j m p)
                have HQ := Lib.hid (show p / 10 ^ (m + 1) = p / 10 ^ m / 10 by rw [Nat.pow_succ, Nat.div_div_eq_div_mul])
                have hZl := Z9_len (j + 1) m p
                rw [show (((j + 1 : Nat) : Int) - 1) = (j : Int) from by omega]
                have hj9 : (j : Int) < 9 := by omega
                have qc := hA.cell j (by omega)
                have qf := hA.free j
                have hAn := hA.set (k := j) (by rw [hZl, hjm]) (by omega) (dig (p / 10 ^ m % 10))
                rw [HS.out] at hAn
                have hq9 : p / 10 ^ m < 4294967296 := Nat.lt_of_le_of_lt (Nat.div_le_self _ _) (by omega)
                generalize p / 10 ^ m = q at *
                have hc10 : q % 10 < 10 := by omega
                obtain ⟨bb, hbb⟩ : ∃ bb, bb = dig (q % 10) := ⟨_, rfl⟩
                rw [← hbb] at hAn
                have e3 : (q : Int).tmod 10 = ((q % 10 : Nat) : Int) := rfl
                have e4 : (q : Int).tdiv 10 = ((q / 10 : Nat) : Int) := rfl
                have e5 : ((q / 10 : Nat) : Int) % 4294967296 = ((q / 10 : Nat) : Int) := by omega
                have hb1 : (48 : Int) + ((q % 10 : Nat) : Int) = (bb.toNat : Int) := by rw [hbb, dig_nat hc10]; omega
                have hb2 : (bb.toNat : Int) % 256 = (bb.toNat : Int) := by have := bb.toNat_lt; omega
                have hb3 : IntKind.u32.wrap (bb.toNat : Int) = (bb.toNat : Int) := w32 (by have := bb.toNat_lt; unfold BB; omega)
                have HBB := Lib.hid hbb
                have HAN := Lib.hid hAn
                clear hbb hAn hZl
                generalize q % 10 = c10 at *
                generalize q / 10 = q10 at *
                go_wp2
                refine ⟨⟨j, m + 1, by omega, by go_num, by rw [HQ.out], HAN.out, bset hBi (by simp) _, by simpa using hsi⟩, by simp [intOf]⟩
end Go.Proofs.YtkejdmdldhlkgaaDoor

/- limb: Digits: the iterator that tells a number's digits, from the first one on. -/
namespace Go.Proofs.YtkejdmdldhlkgaaDoor
open Num
open Go.ChangeShapes Go.WideShapes Go.ChangeAt Go.RowKit
set_option linter.unusedVariables false
set_option linter.unusedSimpArgs false
attribute [local go_sem] Oper.semAt_some

/-- the text's letters are the list's digits -/
def DigTxt (s : ByteArray) (L : List Nat) : Prop := s.data.toList = L.map dig ∧ ∀ d ∈ L, d < 10
theorem DigTxt.size {s : ByteArray} {L : List Nat} (h : DigTxt s L) : s.size = L.length := by
  have e := congrArg List.length h.1
  rw [List.length_map] at e
  rw [← e]; rfl
theorem DigTxt.get {s : ByteArray} {L : List Nat} (h : DigTxt s L) (k : Nat) (hk : k < L.length) (hs : k < s.size) : (s[k]'hs).toNat = 48 + L.getD k 0 ∧ L.getD k 0 < 10 := by
  have hd : L.getD k 0 < 10 := by
    rw [List.getD_eq_getElem?_getD, List.getElem?_eq_getElem hk]; exact h.2 _ (List.getElem_mem _)
  have e : s.data.toList[k]? = some (dig (L.getD k 0)) := by
    rw [h.1, List.getElem?_map, List.getElem?_eq_getElem hk]
    simp [List.getElem?_eq_getElem hk]
  have e2 : s[k]'hs = dig (L.getD k 0) := by
    have h3 : s.data.toList[k]? = some (s[k]'hs) := by
      rw [Array.getElem?_toList]
      exact Array.getElem?_eq_getElem hs
    rw [h3] at e; exact Option.some.inj e
  rw [e2, dig_nat hd]
  exact ⟨rfl, hd⟩
theorem next_dig {s : ByteArray} {L : List Nat} (h : DigTxt s L) {wr : World} {ib pos : Nat} (hit : wr.heap[ib]? = some (.stringIter s pos)) (hp : pos < L.length) (ty : TypeId) :
    (Instr.next (.pointer (some ⟨ib, 0, none⟩)) true ty).run Tryd.prog wr = .ok (.tuple #[.bool true, .int .i64 pos, .int .i32 ((48 + L.getD pos 0 : Nat) : Int)]) (wr.iterAt ib s (pos + 1)) := by
  have hs : pos < s.size := by rw [h.size]; exact hp
  obtain ⟨e, hd⟩ := h.get pos hp hs
  have := Go.Lib.run_next_ascii_at (P := Tryd.prog) wr ib s pos ty hit hs (by rw [e]; omega)
  rwa [e] at this
theorem iterAt_grown (w : World) (k : Nat) (s : ByteArray) (p : Nat) : w.grownBy (w.iterAt k s p) (some k) := by
  refine ⟨rfl, rfl, rfl, by simp [Go.World.iterAt], fun i hi hk => ?_⟩
  simp only [Go.World.iterAt]
  exact Array.getElem?_setIfInBounds_ne (fun e => hk (by rw [e]))

set_option maxRecDepth 100000 in
set_option maxHeartbeats 2000000 in
theorem dg_c (l B N n0 : Nat) (s : ByteArray) (L : List Nat) (J Jx : List Nat → World → Prop) (hJ : AbidesFrom n0 J) (hd : DigTxt s L)
    (hY : ∀ pre x W1, J pre W1 → pre.length < N → YieldAt Fence.wide 3 Tryd.prog l #[.int .i64 ((x % 10 : Nat) : Int)] W1 fun e W' => (e = .returned (.bool true) ∧ J (pre ++ [x]) W' ∧ KeepsWalks W1 W') ∨ (e = .returned (.bool false) ∧ Jx (pre ++ [x]) W'))
    (W : World) (hn : n0 = W.heap.size) (hm : W.cell? ⟨B, 0, none⟩ = some (.string s)) (h0 : J [] W) (hN : L.length ≤ N) :
    Calls Tryd.prog 59 #[.func (.yield l) #[] #[], .pointer (some ⟨B, 0, none⟩)] W fun e W' => (∃ v, e = .returned v) ∧ ((∃ xs, xs = L ∧ J xs W') ∨ (∃ pre, pre <+: L ∧ Jx pre W')) := by
  go_enter Tryd.func59, Tryd.ntmps59
  go_wp2
  go_loopg [4] L.length (fun gk u wr => ∃ pos : Nat, pos ≤ L.length ∧ gk = L.length - pos ∧ wr.heap[W.heap.size]? = some (.stringIter s pos) ∧ J (L.take pos) wr)
  case atStart => exact ⟨0, Nat.zero_le _, by omega, World.iter_heap W s 0, hJ _ _ _ none h0 ⟨rfl, rfl, rfl, by simp [World.iter], fun k hk _ => Below.heap_alloc _ _ _ hk⟩ (fun r e => by cases e)⟩
  case round =>
    obtain ⟨pos, hp, hgk, hit, hj⟩ := hrel
    by_cases hlt : pos < L.length
    · have hnx := next_dig hd hit hlt
      have hd10 := hd.2 (L.getD pos 0) (by rw [List.getD_eq_getElem?_getD, List.getElem?_eq_getElem hlt]; exact List.getElem_mem _)
      obtain ⟨wn, hwn⟩ : ∃ wn, wn = wr.iterAt W.heap.size s (pos + 1) := ⟨_, rfl⟩
      have hitn : wn.heap[W.heap.size]? = some (.stringIter s (pos + 1)) := by rw [hwn]; exact Go.Lib.iterAt_heap wr W.heap.size s pos (pos + 1) hit
      have hjn : J (L.take pos) wn := hJ _ _ _ (some W.heap.size) hj (by rw [hwn]; exact iterAt_grown _ _ _ _) (fun r e => by cases e; exact ⟨Nat.le_of_eq hn, _, hit, rfl⟩)
      rw [← hwn] at hnx
      clear hwn
      have HT := Lib.hid (show L.take (pos + 1) = L.take pos ++ [L.getD pos 0] by
        rw [List.take_add_one, List.getElem?_eq_getElem hlt]; simp [List.getElem?_eq_getElem hlt])
      obtain ⟨fn, tmps, asg, body, hy, hR⟩ := hY (L.take pos) (L.getD pos 0) wn hjn (by rw [List.length_take]; omega)
      rw [Nat.mod_eq_of_lt hd10] at hy
      generalize L.getD pos 0 = d at *
      have hw1 : (48 : Int) + (d : Int) - 48 = (d : Int) := by omega
      go_upto_region 3 with (fail)
      refine (wpIn_wide (n := 4)).1 ?_
      gi_wp2
      refine hR.mono ?_
      rintro e W' (⟨rfl, hJ', hk⟩ | ⟨rfl, hJx'⟩)
      · gi_wp2
        go_wp2
        go_roundg (L.length - (pos + 1))
        case measure => omega
        case rel => exact ⟨pos + 1, by omega, rfl, hk.same _ _ hitn rfl, by rw [HT.out]; exact hJ'⟩
      · gi_wp2
        go_wp2
        refine bodyPost_ret (results_none rfl _ _ _) rfl ?_
        exact ⟨⟨_, rfl⟩, .inr ⟨L.take (pos + 1), List.take_prefix _ _, by rw [HT.out]; exact hJx'⟩⟩
    · obtain rfl : pos = L.length := by omega
      have hnx := fun ty => Go.Lib.run_next_end_at (P := Tryd.prog) wr W.heap.size s L.length ty hit (by rw [hd.size]; omega)
      rw [List.take_length] at hj
      go_wp2
      refine bodyPost_end (results_none rfl _ _ _) rfl ?_
      exact ⟨⟨_, rfl⟩, .inl ⟨L, rfl, hj⟩⟩
theorem digits_stops (B N n : Nat) (s : ByteArray) (L : List Nat) (w : World) (hd : DigTxt s L) (hm : w.cell? ⟨B, 0, none⟩ = some (.string s)) (hN : L.length ≤ N) :
    SeqStopsK Fence.wide n Tryd.prog 59 #[.pointer (some ⟨B, 0, none⟩)] (fun x : Nat => #[.int .i64 ((x % 10 : Nat) : Int)]) KeepsWalks (· = L) (· <+: L) N w := by
  intro l J Jx W hW hJ hJx hY h0
  refine callsIn_wide.2 ?_
  exact dg_c l B N W.heap.size s L J Jx hJ hd (fun pre x W1 hp hl => yieldAt_wide (hY pre x W1 hp hl)) W rfl (bkeep hW hm) h0 hN
/-- what natTxt's letters are -/
def digL (n : Nat) : List Nat := if n = 0 then [0] else (lowD n).reverse
theorem digL_txt (n : Nat) : DigTxt ⟨(natTxt n).toArray⟩ (digL n) := by
  refine ⟨?_, ?_⟩
  · show natTxt n = (digL n).map dig
    unfold natTxt digL
    split
    · rfl
    · rw [asc_eq, List.map_reverse]
  · unfold digL
    split
    · intro d hd; simp at hd; omega
    · intro d hd; exact lowD_lt n d (by simpa using hd)
theorem limbDigits_c (a : Option Addr) (ca : Nat) (l : List Nat) (w : World) (ha : U32 w a ca l) (h1 : l.length ≤ 67108865) :
    Calls Tryd.prog 39 #[.slice a l.length ca] w fun e w' => ∃ B, e = .returned (.func (.func 59) #[] #[.pointer (some ⟨B, 0, none⟩)]) ∧ w'.cell? ⟨B, 0, none⟩ = some (.string ⟨(natTxt (val l)).toArray⟩) ∧ Below w.heap.size w w' := by
  have tc := fun W (h : Below w.heap.size w W) => limbText_c a ca l W (ha.keep h) h1
  go_enter Tryd.func39, Tryd.ntmps39
  go_wp2_with fail
  refine (tc _ (Below.refl _ _)).mono ?_
  rintro e w1 ⟨rfl, hb1⟩
  clear tc
  go_wp2
  go_ret
  exact ⟨_, rfl, cell_new rfl rfl, bal hb1 _⟩
end Go.Proofs.YtkejdmdldhlkgaaDoor

