/- Texts of this seat, laid together: EvW, MxH, MxI, MxJ, MxK, IntM, MxL, MxM, MxN, MxO, MxT, MwA. Each opens with its own remark, which says what it proves, and under which conditions. -/
import Derived.Test.YtdllbdfchloijaaGreatDoorW18
import Derived.Test.YtdllbdfchloijaaGreatDoorW22
import Derived.Test.YtdllbdfchloijaaGreatDoorW04
import Derived.Deep.DeepFit
import Derived.Deep.DeepCutAuto
import Derived.Lib.AppendZeros
import Derived.Test.YtdllbdfchloijaaGreatDoorW15
import Derived.Test.YtdllbdfchloijaaGreatDoorW10
import Derived.Test.YtdllbdfchloijaaGreatDoorW05
import Derived.Test.YtdllbdfchloijaaGreatDoorW07
set_option linter.unusedVariables false
set_option linter.unusedSimpArgs false
/- eval: Values. -/
namespace Go.Proofs.YtdllbdfchloijaaGreatDoor
open Pt
open Num
open Go.ChangeShapes Go.WideShapes Go.ChangeAt Go.RowKit
set_option linter.unusedVariables false
set_option linter.unusedSimpArgs false
attribute [local go_sem ↓] Go.wp_at_zero Go.wp_at_succ
/-- the values at the points -/
def valsL (l : List Int) (n : Nat) (f : Nat → Int × Int) : List Int := (List.range n).map fun i => hvL l (f i).1 (f i).2
theorem valsL_len (l : List Int) (n : Nat) (f : Nat → Int × Int) : (valsL l n f).length = n := by simp [valsL]
theorem valsL_at {l : List Int} {n i : Nat} {f : Nat → Int × Int} (h : i < n) : (valsL l n f).getD i 0 = hvL l (f i).1 (f i).2 := by simp [valsL, h]
set_option maxRecDepth 100000 in
set_option maxHeartbeats 8000000 in
theorem values_c (v : Value) (l : List Int) (K : Nat) (a : Option Addr) (n cap : Nat) (f : Nat → Int × Int) (w : World) (hv : PRow 0 w v l) (h1 : 1 ≤ l.length) (h2 : l.length ≤ 16) (hp : PtsV w a n cap f) (hok : PtsOk n f) (hb : ∀ j, Bd K (l.getD j 0)) (hK : K ≤ 1000000) :
    Calls Tryz.prog 15 #[v, .slice a n cap] w fun e w' => (∃ va, e = .returned (.tuple #[va, .int .i64 0]) ∧ RowO IsInt 50 w.heap.size w' va (valsL l n f)) ∧ Below w.heap.size w w' := by
  have hB := Below.refl w.heap.size w
  have HV := Lib.hid hv
  have HP := Lib.hid hp
  have HK := Lib.hid hok
  have hn15 : n ≤ 15 := hok.2.1
  obtain ⟨va, vc, rfl, -, -⟩ := hv.view
  obtain ⟨P, hP⟩ : ∃ P, l.length = P := ⟨_, rfl⟩
  have HLN := Lib.hid hP
  rw [hP] at HV h1 h2 ⊢
  clear hP
  have PC := Lib.hid (fun V (q : Below w.heap.size w V) => evPoints_c a n cap f V (HP.out.keep q) (by omega))
  rw [(ptsB_iff n f).2 hok] at PC
  have HN := Lib.hid (valsL_len l n f)
  have HL := Lib.hid (fun i (h : i < n) => valsL_at (l := l) (f := f) h)
  have HVB := Lib.hid hb
  obtain ⟨G, hG⟩ : ∃ G, valsL l n f = G := ⟨_, rfl⟩
  rw [hG] at HN HL ⊢
  clear hv hp hok hb hG
  go_enter Tryz.func15, Tryz.ntmps15
  go_wp2_with fail
  (with_reducible refine (PC.out _ ?_).mono ?_); (repeat (first | exact Below.refl _ _ | exact hB | refine Below.drew ?_ | refine below_drewN ?_ _ | refine bset ?_ (by simp <;> omega) _ | refine bal ?_ _))
  rintro e w1 ⟨rfl, hb1⟩
  have hB1 : Below w.heap.size w w1 := bthen (by repeat (first | exact Below.refl _ _ | exact hB | refine Below.drew ?_ | refine below_drewN ?_ _ | refine bset ?_ (by simp <;> omega) _ | refine bal ?_ _)) hb1
  clear PC hb1 hB
  go_wp2
  go_loopw [6, 16] (fun vv x wr => ∃ j : Nat, j ≤ n ∧ x = .int .i64 j ∧ Hid (OwnF IsInt 50 w wr vv j (fun i => G.getD i 0))) (fun _ x _ => n - (intOf x).toNat)
  case atStart => exact ⟨0, Nat.zero_le _, rfl, Lib.hid (OwnF.nil _ _ _ hB1)⟩
  case round =>
    obtain ⟨j, hj, rfl, hF⟩ := hrel
    have hBr := hF.out.bel
    obtain ⟨fa, fc, hfv⟩ : ∃ a c, _ = Value.slice a j c := by obtain ⟨a, c, h, _⟩ := hF.out.view; exact ⟨a, c, h⟩
    subst hfv
    by_cases hlt : j < n
    · have hltI : (j : Int) < (n : Int) := by omega
      obtain ⟨b, off, rfl, hcap, c0, c1⟩ := (HP.out.keep hBr).atE hlt
      have zb := cell_lt c0
      have HPN := Lib.hid (show PIn (f j).1 (f j).2 from HK.out.2.2 j hlt)
      have HSN := Lib.hid (show ∀ i, i < j + 1 → (fun m => if m = j then hvL l (f j).1 (f j).2 else G.getD m 0) i = G.getD i 0 from fun i hi => by
        dsimp only
        by_cases e : i = j
        · subst e; rw [if_pos rfl, HL.out i hlt]
        · rw [if_neg e])
      obtain ⟨pa, hpa⟩ : ∃ x, (f j).1 = x := ⟨_, rfl⟩
      obtain ⟨pb, hpb⟩ : ∃ x, (f j).2 = x := ⟨_, rfl⟩
      rw [hpa] at c0 HPN HSN
      rw [hpb] at c1 HPN HSN
      have hBw := Below.refl wr.heap.size wr
      have TC := Lib.hid (fun V (qB : Below wr.heap.size wr V) => value_c (.slice va P vc) l K pa pb V (IsRow.keep lims_int HV.out (bthen hBr qB)) (by rw [HLN.out]; exact h1) (by rw [HLN.out]; exact h2) HPN.out HVB.out hK)
      have hlN := hlt
      clear hpa hpb hcap hlt
      go_wp2_with fail
      (with_reducible refine (TC.out _ ?_).mono ?_); (repeat (first | exact Below.refl _ _ | exact hBw | refine Below.drew ?_ | refine below_drewN ?_ _ | refine bset ?_ (by simp <;> omega) _ | refine bal ?_ _))
      rintro e w5 ⟨⟨u, rfl, hu⟩, hb5⟩
      have hk : Below wr.heap.size wr w5 := bthen (by repeat (first | exact Below.refl _ _ | exact hBw | refine Below.drew ?_ | refine below_drewN ?_ _ | refine bset ?_ (by simp <;> omega) _ | refine bal ?_ _)) hb5
      have HF5 := Lib.hid (hF.out.below lims_int hk)
      have HU := Lib.hid hu
      obtain ⟨un, ud, ul, uk, rfl⟩ := hu.litE
      clear TC hb5 hu hF
      have hBw5 := Below.refl w5.heap.size w5
      go_upto_region 10 with (fail)
      refine wp_name fun w6 hW6 => ?_
      have hk6 : Below w5.heap.size w5 w6 := by rw [hW6]; repeat (first | exact Below.refl _ _ | exact hBw5 | refine Below.drew ?_ | refine below_drewN ?_ _ | refine bset ?_ (by simp <;> omega) _ | refine bal ?_ _)
      have t0 : w6.cell? ⟨w5.heap.size, 0, none⟩ = some (.bool un) := by rw [hW6]; simp [go_sem]
      have t1 : w6.cell? ⟨w5.heap.size, 1, none⟩ = some (.slice ud ul uk) := by rw [hW6]; simp [go_sem]
      have zt := cell_lt t0
      have HF6 := Lib.hid (HF5.out.below lims_int hk6)
      have HU6 := Lib.hid (HU.out.keep hk6)
      clear hW6 HF5 HU hk hBw hBw5 c0 c1
      go_wp2_with (at_builtin; refine app_num elInt (by decide) lims_int (by rfl) (by rfl) HF6.out HU6.out (by rfl) (by rfl) (by omega) ?_)
      intro v8 w8 hF8 _ _
      have HF8 := Lib.hid (hF8.congr' HSN.out)
      clear hF8
      go_wp2
      exact ⟨⟨j + 1, by omega, by go_num, HF8⟩, by simp [intOf]; omega⟩
    · obtain rfl : j = n := by omega
      have HE := Lib.hid hF.out
      rw [← HN.out] at HE
      go_wp2
      refine bodyPost_ret (v := .tuple #[.slice fa j fc, .int .i64 0]) (by simp [results, Tryz.results15, go_sem, *]) rfl ?_
      exact ⟨⟨_, rfl, by rw [HN.out] at HE; exact OwnF.rowO (by rw [HN.out]; exact HE.out)⟩, hBr⟩
set_option maxRecDepth 100000 in
set_option maxHeartbeats 8000000 in
theorem values_no (v : Value) (l : List Int) (a : Option Addr) (n cap : Nat) (f : Nat → Int × Int) (w : World) (hv : PRow 0 w v l) (hp : PtsV w a n cap f) (hn : n ≤ 4611686018427387904) (hno : ¬ (1 ≤ l.length ∧ l.length ≤ 16 ∧ PtsOk n f)) :
    Calls Tryz.prog 15 #[v, .slice a n cap] w fun e w' => e = .returned (.tuple #[.slice none 0 0, .int .i64 2]) ∧ Below w.heap.size w w' := by
  have hB := Below.refl w.heap.size w
  have HV := Lib.hid hv
  have HP := Lib.hid hp
  obtain ⟨va, vc, rfl, -, -⟩ := hv.view
  obtain ⟨P, hP⟩ : ∃ P, l.length = P := ⟨_, rfl⟩
  have HLN := Lib.hid hP
  rw [hP] at HV hno ⊢
  clear hv hp hP
  by_cases hok : PtsOk n f
  rotate_left
  · have PC := Lib.hid (fun V (q : Below w.heap.size w V) => evPoints_c a n cap f V (HP.out.keep q) hn)
    rw [ptsB_no hok] at PC
    clear hok hno
    go_enter Tryz.func15, Tryz.ntmps15
    go_wp2_with fail
    (with_reducible refine (PC.out _ ?_).mono ?_); (repeat (first | exact Below.refl _ _ | exact hB | refine Below.drew ?_ | refine below_drewN ?_ _ | refine bset ?_ (by simp <;> omega) _ | refine bal ?_ _))
    rintro e w1 ⟨rfl, hb1⟩
    have hB1 : Below w.heap.size w w1 := bthen (by repeat (first | exact Below.refl _ _ | exact hB | refine Below.drew ?_ | refine below_drewN ?_ _ | refine bset ?_ (by simp <;> omega) _ | refine bal ?_ _)) hb1
    clear PC hb1 hB
    go_wp2
    refine bodyPost_ret (v := .tuple #[.slice none 0 0, .int .i64 2]) (by simp [results, Tryz.results15, go_sem, *]) rfl ⟨rfl, by repeat (first | exact Below.refl _ _ | exact hB1 | refine Below.drew ?_ | refine below_drewN ?_ _ | refine bset ?_ (by simp <;> omega) _ | refine bal ?_ _)⟩
  have HK := Lib.hid hok
  have hn1 : 1 ≤ n := hok.1
  have HNO := Lib.hid (show ¬ (1 ≤ P ∧ P ≤ 16) from fun q => hno ⟨q.1, q.2, hok⟩)
  have PC := Lib.hid (fun V (q : Below w.heap.size w V) => evPoints_c a n cap f V (HP.out.keep q) hn)
  rw [(ptsB_iff n f).2 hok] at PC
  clear hok hno
  go_enter Tryz.func15, Tryz.ntmps15
  go_wp2_with fail
  (with_reducible refine (PC.out _ ?_).mono ?_); (repeat (first | exact Below.refl _ _ | exact hB | refine Below.drew ?_ | refine below_drewN ?_ _ | refine bset ?_ (by simp <;> omega) _ | refine bal ?_ _))
  rintro e w1 ⟨rfl, hb1⟩
  have hB1 : Below w.heap.size w w1 := bthen (by repeat (first | exact Below.refl _ _ | exact hB | refine Below.drew ?_ | refine below_drewN ?_ _ | refine bset ?_ (by simp <;> omega) _ | refine bal ?_ _)) hb1
  clear PC hb1 hB
  have HB1 := Lib.hid hB1
  have hBr := hB1
  clear hB1
  obtain ⟨b, off, rfl, hcap, c0, c1⟩ := (HP.out.keep hBr).atE (i := 0) (by omega)
  clear c0 c1
  go_wp2
  go_loopw [6, 16] (fun vv x wr => vv = .slice none 0 0 ∧ x = .int .i64 ((0 : Nat) : Int) ∧ Below w.heap.size w wr) (fun _ x _ => 0)
  case atStart => exact ⟨rfl, rfl, HB1.out⟩
  case round =>
    obtain ⟨rfl, rfl, hBr⟩ := hrel
    have hltI : ((0 : Nat) : Int) < (n : Int) := by omega
    obtain ⟨_, _, e, -, c0, c1⟩ := (HP.out.keep hBr).atE (i := 0) (by omega)
    cases e
    simp only [Nat.zero_mul, Nat.add_zero] at c0 c1
    have zb := cell_lt c0
    obtain ⟨pa, hpa⟩ : ∃ x, (f 0).1 = x := ⟨_, rfl⟩
    obtain ⟨pb, hpb⟩ : ∃ x, (f 0).2 = x := ⟨_, rfl⟩
    rw [hpa] at c0
    rw [hpb] at c1
    have hBw := Below.refl wr.heap.size wr
    have TC := Lib.hid (fun V (qB : Below wr.heap.size wr V) => value_no (.slice va P vc) l pa pb V (IsRow.keep lims_int HV.out (bthen hBr qB)) (by rw [HLN.out]; exact fun q => HNO.out ⟨q.1, q.2.1⟩))
    clear hpa hpb hcap
    go_wp2_with fail
    (with_reducible refine (TC.out _ ?_).mono ?_); (repeat (first | exact Below.refl _ _ | exact hBw | refine Below.drew ?_ | refine below_drewN ?_ _ | refine bset ?_ (by simp <;> omega) _ | refine bal ?_ _))
    rintro e w5 ⟨rfl, hb5⟩
    have hB1 : Below w.heap.size w w5 := bthen hBr (bthen (show Below wr.heap.size wr _ by repeat (first | exact Below.refl _ _ | exact hBw | refine Below.drew ?_ | refine below_drewN ?_ _ | refine bset ?_ (by simp <;> omega) _ | refine bal ?_ _)) hb5)
    clear TC hb5 c0 c1
    go_wp2
    refine bodyPost_ret (v := .tuple #[.slice none 0 0, .int .i64 2]) (by simp [results, Tryz.results15, go_sem, *]) rfl ⟨rfl, by repeat (first | exact Below.refl _ _ | exact hB1 | refine Below.drew ?_ | refine below_drewN ?_ _ | refine bset ?_ (by simp <;> omega) _ | refine bal ?_ _)⟩
end Go.Proofs.YtdllbdfchloijaaGreatDoor

/- matrix: rows that are written, each in a block of its own; the bits of elimination. -/
namespace Go.Proofs.YtdllbdfchloijaaGreatDoor
open Num
open Go.ChangeShapes Go.WideShapes Go.ChangeAt Go.RowKit
set_option linter.unusedVariables false
set_option linter.unusedSimpArgs false
/-- bits behind so many columns -/
def kb (K t : Nat) : Nat := (K + 1) * 2 ^ t - 1
/-- rows that may be written, each in a block of its own between base and top; their slices lie in the block B -/
structure RowsW (base top B n m : Nat) (w : World) (bs : Nat → Nat) (g : Nat → Nat → Int) : Prop where
  tB : typOf w B = some 43
  lo : base ≤ B
  hi : B < top
  fB : Free w B
  cell : ∀ i, i < n → ∃ c, w.cell? ⟨B, i, none⟩ = some (.slice (some ⟨bs i, 0, none⟩) m c)
  ty : ∀ i, i < n → typOf w (bs i) = some 50
  lob : ∀ i, i < n → base ≤ bs i
  hib : ∀ i, i < n → bs i < top
  fr : ∀ i, i < n → Free w (bs i)
  inj : ∀ i j, i < n → j < n → bs i = bs j → i = j
  num : ∀ i, i < n → IntsF IsInt w (bs i) 0 m (g i)
section
variable {base top B n m : Nat} {w w' : World} {bs : Nat → Nat} {g g' : Nat → Nat → Int}
theorem RowsW.congr (h : RowsW base top B n m w bs g) (e : ∀ r c, r < n → c < m → g r c = g' r c) : RowsW base top B n m w bs g' :=
  ⟨h.tB, h.lo, h.hi, h.fB, h.cell, h.ty, h.lob, h.hib, h.fr, h.inj, fun i hi => (h.num i hi).congr fun k hk => e i k hi hk⟩
theorem RowsW.out {X : Nat → Prop} (h : RowsW base top B n m w bs g) (ho : Out X w w') (hx : ∀ q, base ≤ q → q < top → ¬ X q) (hl : Lim w w') : RowsW base top B n m w' bs g := by
  have bB := hx B h.lo h.hi
  have bi : ∀ i, i < n → ¬ X (bs i) := fun i hi => hx _ (h.lob i hi) (h.hib i hi)
  refine ⟨by rw [typ_of_block (w := w) (ho.block B (typ_lt h.tB) bB)]; exact h.tB, h.lo, h.hi, h.fB.out ho bB, fun i hi => ?_, fun i hi => by rw [typ_of_block (w := w) (ho.block _ (typ_lt (h.ty i hi)) (bi i hi))]; exact h.ty i hi, h.lob, h.hib, fun i hi => (h.fr i hi).out ho (bi i hi), h.inj, fun i hi => (h.num i hi).out lims_int ho (bi i hi) hl⟩
  obtain ⟨c, hc⟩ := h.cell i hi
  exact ⟨c, okeep ho hc bB⟩
theorem RowsW.keep (h : RowsW base top B n m w bs g) (k : Below w.heap.size w w') : RowsW base top B n m w' bs g :=
  h.out (X := fun _ => False) (Out.of_below _ k) (fun _ _ _ hf => hf) (Lim.of_below k)
/-- one number is set -/
theorem RowsW.put (h : RowsW base top B n m w bs g) {i c : Nat} (hi : i < n) (hc : c < m) {nb : Bool} {a : Option Addr} {len cp : Nat} {z : Int} (hv : IsInt w (.agg #[.bool nb, .slice a len cp]) z) :
    RowsW base top B n m ((w.setCell ⟨bs i, c * 2, none⟩ (.bool nb)).setCell ⟨bs i, c * 2 + 1, none⟩ (.slice a len cp)) bs (fun r c' => if r = i ∧ c' = c then z else g r c') := by
  have hne : ∀ j, j < n → j ≠ i → bs i ≠ bs j := fun j hj hji e => hji (h.inj j i hj hi e.symm)
  have hBi : bs i ≠ B := fun e => by
    have h1 := h.ty i hi
    rw [e, h.tB] at h1
    exact absurd (Option.some.inj h1) (by decide)
  refine ⟨by rw [typ_set, typ_set]; exact h.tB, h.lo, h.hi, (h.fB.set _ _).set _ _, fun j hj => ?_, fun j hj => by rw [typ_set, typ_set]; exact h.ty j hj, h.lob, h.hib, fun j hj => ((h.fr j hj).set _ _).set _ _, h.inj, fun j hj => ?_⟩
  · obtain ⟨c0, hc0⟩ := h.cell j hj
    exact ⟨c0, cell_far (cell_far hc0 (addr_ne hBi) _) (addr_ne hBi) _⟩
  · by_cases e : j = i
    · subst e
      refine (IntsF.store0 lims_int (h.num j hj) hc hv).congr fun k hk => ?_
      by_cases e2 : k = c
      · subst e2; simp
      · simp [e2]
    · obtain ⟨nb0, a0, len0, c0, o0, o1, -⟩ := (h.num i hi).at0 hc
      exact (IntsF.far lims_int (h.num j hj) (hne j hj e) o0 o1 _ _).congr fun k hk => by rw [if_neg (fun hh => e hh.1)]
/-- two rows change places -/
theorem RowsW.swap (h : RowsW base top B n m w bs g) {i k : Nat} (hi : i < n) (hk : k < n) {ci ck : Nat} (hci : w.cell? ⟨B, i, none⟩ = some (.slice (some ⟨bs i, 0, none⟩) m ci)) (hck : w.cell? ⟨B, k, none⟩ = some (.slice (some ⟨bs k, 0, none⟩) m ck)) :
    RowsW base top B n m ((w.setCell ⟨B, i, none⟩ (.slice (some ⟨bs k, 0, none⟩) m ck)).setCell ⟨B, k, none⟩ (.slice (some ⟨bs i, 0, none⟩) m ci)) (fun r => if r = k then bs i else if r = i then bs k else bs r) (Det.swp g i k) := by
  have hk0 : Kp (fun t => t ≠ 43) w ((w.setCell ⟨B, i, none⟩ (.slice (some ⟨bs k, 0, none⟩) m ck)).setCell ⟨B, k, none⟩ (.slice (some ⟨bs i, 0, none⟩) m ci)) :=
    (((Kp.refl _ w).set (p := ⟨B, i, none⟩) (fun t ht => by rw [h.tB] at ht; cases ht; exact fun hh => hh rfl) _).set (p := ⟨B, k, none⟩) (fun t ht => by rw [typ_set, h.tB] at ht; cases ht; exact fun hh => hh rfl) _)
  have pick : ∀ r, r < n → ∃ r', r' < n ∧ (if r = k then bs i else if r = i then bs k else bs r) = bs r' ∧ (r' = if r = k then i else if r = i then k else r) := fun r hr => by
    by_cases e1 : r = k
    · exact ⟨i, hi, by rw [if_pos e1], by rw [if_pos e1]⟩
    · by_cases e2 : r = i
      · exact ⟨k, hk, by rw [if_neg e1, if_pos e2], by rw [if_neg e1, if_pos e2]⟩
      · exact ⟨r, hr, by rw [if_neg e1, if_neg e2], by rw [if_neg e1, if_neg e2]⟩
  refine ⟨by rw [typ_set, typ_set]; exact h.tB, h.lo, h.hi, (h.fB.set _ _).set _ _, fun r hr => ?_, fun r hr => ?_, fun r hr => ?_, fun r hr => ?_, fun r hr => ?_, fun r s hr hs e => ?_, fun r hr => ?_⟩
  · by_cases e1 : r = k
    · subst e1
      refine ⟨ci, ?_⟩
      rw [if_pos rfl]
      by_cases e2 : r = i
      · subst e2; exact cell_here (cell_here hci _) _
      · exact cell_here (cell_far hck (by simp <;> omega) _) _
    · by_cases e2 : r = i
      · subst e2
        refine ⟨ck, ?_⟩
        rw [if_neg e1, if_pos rfl]
        exact cell_far (cell_here hci _) (by simp <;> omega) _
      · obtain ⟨c, hc⟩ := h.cell r hr
        refine ⟨c, ?_⟩
        rw [if_neg e1, if_neg e2]
        exact cell_far (cell_far hc (by simp <;> omega) _) (by simp <;> omega) _
  · obtain ⟨r', h1, h2, -⟩ := pick r hr
    rw [h2, typ_set, typ_set]; exact h.ty r' h1
  · obtain ⟨r', h1, h2, -⟩ := pick r hr
    rw [h2]; exact h.lob r' h1
  · obtain ⟨r', h1, h2, -⟩ := pick r hr
    rw [h2]; exact h.hib r' h1
  · obtain ⟨r', h1, h2, -⟩ := pick r hr
    rw [h2]; exact ((h.fr r' h1).set _ _).set _ _
  · obtain ⟨r', h1, h2, h3⟩ := pick r hr
    obtain ⟨s', k1, k2, k3⟩ := pick s hs
    rw [h2, k2] at e
    have := h.inj r' s' h1 k1 e
    rw [h3, k3] at this
    by_cases a1 : r = k <;> by_cases a2 : r = i <;> by_cases a3 : s = k <;> by_cases a4 : s = i <;> simp only [a1, a2, a3, a4, if_true, if_false] at this ⊢ <;> first | omega | (split at this <;> omega)
  · obtain ⟨r', h1, h2, h3⟩ := pick r hr
    rw [h2]
    refine ((h.num r' h1).stay lims_int ?_ (hk0.lim (by decide))).congr fun c hc => ?_
    · exact hk0 _ _ (h.ty r' h1) (by decide)
    · unfold Det.swp
      rw [h3]
      by_cases a1 : r = k <;> by_cases a2 : r = i
      · rw [if_pos a1, if_pos a2]; rw [← a1, ← a2]
      · rw [if_pos a1, if_neg a2, if_pos a1]
      · rw [if_neg a1, if_pos a2, if_pos a2]
      · rw [if_neg a1, if_neg a2, if_neg a2, if_neg a1]
end
/-- a row in a block of its own, told with that block -/
def PRb (base : Nat) (w : World) (u : Value) (x : Nat × List Int) : Prop :=
  ∃ c, u = .slice (some ⟨x.1, 0, none⟩) x.2.length c ∧ base ≤ x.1 ∧ typOf w x.1 = some 50 ∧ Free w x.1 ∧ IntsF IsInt w x.1 0 x.2.length (fun k => x.2.getD k 0)
/-- small numbers in a list -/
def PInt (w : World) (u : Value) (x : Nat) : Prop := u = .int .i64 (x : Nat)
theorem prs_pint : Prs (fun _ => False) PInt := ⟨fun h => by cases h; rfl, fun h _ => h⟩
end Go.Proofs.YtdllbdfchloijaaGreatDoor

/- matrix: eliminated. -/
namespace Go.Proofs.YtdllbdfchloijaaGreatDoor
open Num
open Go.ChangeShapes Go.WideShapes Go.ChangeAt Go.RowKit
set_option linter.unusedVariables false
set_option linter.unusedSimpArgs false
attribute [local go_sem ↓] Go.wp_at_zero Go.wp_at_succ
theorem VarI.out {X : Nat → Prop} {ub : Nat} {m : Int} {w w' : World} (h : VarI ub m w) (ho : Out X w w') (hx : ¬ X ub) (hl : Lim w w') : VarI ub m w' := by
  obtain ⟨ht, n, a, ln, c, h0, h1, f0, f1, hi⟩ := h
  exact ⟨by rw [typ_of_block (w := w) (ho.block ub (typ_lt ht) hx)]; exact ht, n, a, ln, c, okeep ho h0 hx, okeep ho h1 hx, okeepf ho h0 f0 hx, okeepf ho h1 f1 hx, hi.lim hl⟩
/-- a machine of elimination -/
structure ElS (w : World) (lb base top B n m : Nat) (wr : World) (pv : Value) (s : Det.El) : Prop where
  bel : Below w.heap.size w wr
  r : wr.cell? ⟨w.heap.size, 0, none⟩ = some (.bool false) ∧ wr.cell? ⟨w.heap.size, 1, none⟩ = some (.slice none 0 0) ∧ wr.frozen? ⟨w.heap.size, 0, none⟩ = false ∧ wr.frozen? ⟨w.heap.size, 1, none⟩ = false
  rt : typOf wr w.heap.size = some 50
  rows : 0 < n → ∃ bs, RowsW base top B n m wr bs s.g
  last : VarI lb s.last wr
  piv : OwnL 3 PInt w wr pv s.p
theorem ElS.keep {w : World} {lb base top B n m : Nat} {wr w' : World} {pv : Value} {s : Det.El} (h : ElS w lb base top B n m wr pv s) (k : Below wr.heap.size wr w') : ElS w lb base top B n m w' pv s := by
  exact ⟨bthen h.bel k, ⟨bkeep k h.r.1, bkeep k h.r.2.1, bkeepf k h.r.1 h.r.2.2.1, bkeepf k h.r.2.1 h.r.2.2.2⟩, typ_keep h.rt k, fun h0 => by obtain ⟨bs, hb⟩ := h.rows h0; exact ⟨bs, hb.keep k⟩, h.last.keep k, h.piv.below prs_pint k⟩
section
variable {w : World} {lb base top B n m : Nat} {wr w' w7 : World} {pv : Value} {s : Det.El}
theorem ElS.swap (h : ElS w lb base top B n m wr pv s) {bs : Nat → Nat} (hr : RowsW base top B n m wr bs s.g) (hwb : w.heap.size < base) (htl : top ≤ lb) {i k : Nat} (hi : i < n) (hk : k < n) {ci ck : Nat} (hci : wr.cell? ⟨B, i, none⟩ = some (.slice (some ⟨bs i, 0, none⟩) m ci)) (hck : wr.cell? ⟨B, k, none⟩ = some (.slice (some ⟨bs k, 0, none⟩) m ck)) :
    ElS w lb base top B n m ((wr.setCell ⟨B, i, none⟩ (.slice (some ⟨bs k, 0, none⟩) m ck)).setCell ⟨B, k, none⟩ (.slice (some ⟨bs i, 0, none⟩) m ci)) pv ⟨Det.swp s.g i k, s.p, s.last, s.sign⟩ := by
  have h1 := hr.lo
  have h2 := hr.hi
  have ho : Out (fun q => q = B) wr ((wr.setCell ⟨B, i, none⟩ (.slice (some ⟨bs k, 0, none⟩) m ck)).setCell ⟨B, k, none⟩ (.slice (some ⟨bs i, 0, none⟩) m ci)) := ((Out.refl (fun q => q = B) wr).set (p := ⟨B, i, none⟩) (fun _ => show B = B from rfl) _).set (p := ⟨B, k, none⟩) (fun _ => show B = B from rfl) _
  have hk0 : Kp (fun t => t ≠ 43) wr ((wr.setCell ⟨B, i, none⟩ (.slice (some ⟨bs k, 0, none⟩) m ck)).setCell ⟨B, k, none⟩ (.slice (some ⟨bs i, 0, none⟩) m ci)) := Kp.out ho (fun q t hq ht => by subst hq; rw [hr.tB] at ht; cases ht; exact fun hh => hh rfl)
  have hne : ¬ w.heap.size = B := by omega
  exact ⟨bset (bset h.bel (by show w.heap.size ≤ B; omega) _) (by show w.heap.size ≤ B; omega) _, ⟨okeep ho h.r.1 hne, okeep ho h.r.2.1 hne, okeepf ho h.r.1 h.r.2.2.1 hne, okeepf ho h.r.2.1 h.r.2.2.2 hne⟩, by rw [typ_set, typ_set]; exact h.rt, fun _ => ⟨_, hr.swap hi hk hci hck⟩, h.last.out ho (show ¬ lb = B by omega) (hk0.lim (by decide)), h.piv.kp prs_pint hk0 (fun _ hf => hf.elim) (by decide) (bset (bset h.bel (by show w.heap.size ≤ B; omega) _) (by show w.heap.size ≤ B; omega) _)⟩
theorem RowsW.kp {bs : Nat → Nat} {g : Nat → Nat → Int} {S : TypeId → Prop} (h : RowsW base top B n m wr bs g) (k : Kp S wr w') (h1 : S 50) (h2 : S 43) (h3 : S 106) : RowsW base top B n m w' bs g := by
  have fr : ∀ q t, typOf wr q = some t → S t → Free wr q → Free w' q := fun q t ht hs hf => ⟨typ_lt (k.typ ht hs), fun j => by rw [World.frozen?_of_block (w := wr) (k _ _ ht hs)]; exact hf.2 j⟩
  refine ⟨k.typ h.tB h2, h.lo, h.hi, fr _ _ h.tB h2 h.fB, fun i hi => ?_, fun i hi => k.typ (h.ty i hi) h1, h.lob, h.hib, fun i hi => fr _ _ (h.ty i hi) h1 (h.fr i hi), h.inj, fun i hi => (h.num i hi).stay lims_int (k _ _ (h.ty i hi) h1) (k.lim h3)⟩
  obtain ⟨c, hc⟩ := h.cell i hi
  exact ⟨c, k.cell h.tB h2 hc⟩
theorem VarI.kp {S : TypeId → Prop} {ub : Nat} {z : Int} (h : VarI ub z wr) (k : Kp S wr w') (h1 : S 50) (h3 : S 106) : VarI ub z w' := by
  obtain ⟨ht, n, a, ln, c, h0, h1', f0, f1, hi⟩ := h
  exact ⟨k.typ ht h1, n, a, ln, c, k.cell ht h1 h0, k.cell ht h1 h1', k.frz ht h1 f0, k.frz ht h1 f1, hi.lim (k.lim h3)⟩
theorem ElS.congr (h : ElS w lb base top B n m wr pv s) {s' : Det.El} (hg : ∀ r c, r < n → c < m → s.g r c = s'.g r c) (hp : s.p = s'.p) (hl : s.last = s'.last) : ElS w lb base top B n m wr pv s' :=
  ⟨h.bel, h.r, h.rt, fun h0 => by obtain ⟨bs, hb⟩ := h.rows h0; exact ⟨bs, hb.congr hg⟩, hl ▸ h.last, hp ▸ h.piv⟩
end
theorem PRb.rebase {base base' : Nat} {w : World} {u : Value} {x : Nat × List Int} (h : PRb base w u x) (hb : base' ≤ base) : PRb base' w u x := by
  obtain ⟨c, e, h1, r⟩ := h; exact ⟨c, e, Nat.le_trans hb h1, r⟩
end Go.Proofs.YtdllbdfchloijaaGreatDoor

/- matrix: det, Det. -/
namespace Go.Proofs.YtdllbdfchloijaaGreatDoor
open Num
open Go.ChangeShapes Go.WideShapes Go.ChangeAt Go.RowKit
set_option linter.unusedVariables false
set_option linter.unusedSimpArgs false
attribute [local go_sem ↓] Go.wp_at_zero Go.wp_at_succ
end Go.Proofs.YtdllbdfchloijaaGreatDoor

/- slices.Grow, slices.Concat at rows of numbers. -/
namespace Go.Proofs.YtdllbdfchloijaaGreatDoor
open Num
open Go.ChangeShapes Go.WideShapes Go.ChangeAt Go.RowKit
set_option linter.unusedVariables false
set_option linter.unusedSimpArgs false
attribute [local go_sem ↓] Go.wp_at_zero Go.wp_at_succ
end Go.Proofs.YtdllbdfchloijaaGreatDoor

/- integer: Abs's value; Gcd. -/
namespace Go.Proofs.YtdllbdfchloijaaGreatDoor
open Num
open Go.ChangeShapes Go.WideShapes Go.ChangeAt Go.RowKit
set_option linter.unusedVariables false
set_option linter.unusedSimpArgs false
attribute [local go_sem ↓] Go.wp_at_zero Go.wp_at_succ
theorem VarI.far {ub vb : Nat} {z m : Int} {W : World} (h : VarI ub m W) (k : VarI vb z W) (hne : ub ≠ vb) (x : Bool) (y : Option Addr) (p q : Nat) : VarI ub m ((W.setCell ⟨vb, 0, none⟩ (.bool x)).setCell ⟨vb, 1, none⟩ (.slice y p q)) := by
  obtain ⟨ht, n, a, ln, c, h0, h1, f0, f1, hi⟩ := h
  obtain ⟨-, n', a', ln', c', k0, k1, -, -, -⟩ := k
  exact ⟨by rw [typ_set, typ_set]; exact ht, n, a, ln, c, cell_far (cell_far h0 (addr_ne (Ne.symm hne)) _) (addr_ne (Ne.symm hne)) _, cell_far (cell_far h1 (addr_ne (Ne.symm hne)) _) (addr_ne (Ne.symm hne)) _, by rw [World.frozen?_setCell, World.frozen?_setCell]; exact f0, by rw [World.frozen?_setCell, World.frozen?_setCell]; exact f1, hi.put2 k0 k1 _ _⟩
end Go.Proofs.YtdllbdfchloijaaGreatDoor

/- matrix: Adjugate's function value. -/
namespace Go.Proofs.YtdllbdfchloijaaGreatDoor
open Num
open Go.ChangeShapes Go.WideShapes Go.ChangeAt Go.RowKit
set_option linter.unusedVariables false
set_option linter.unusedSimpArgs false
attribute [local go_sem ↓] Go.wp_at_zero Go.wp_at_succ
theorem IntsF.head {w : World} {b off n m : Nat} {l : List Int} (h : IntsF IsInt w b off n (fun k => l.getD k 0)) (hm : m ≤ n) : IntsF IsInt w b off m (fun k => (l.take m).getD k 0) := fun k hk => by
  obtain ⟨nb, a, len, c, k1, k2, k3⟩ := h k (by omega)
  refine ⟨nb, a, len, c, k1, k2, ?_⟩
  show IsInt _ _ ((l.take m).getD k 0)
  rw [List.getD_eq_getElem?_getD, List.getElem?_take_of_lt hk, ← List.getD_eq_getElem?_getD]; exact k3
end Go.Proofs.YtdllbdfchloijaaGreatDoor

/- matrix: Det, Adjugate; row: Content. -/
namespace Go.Proofs.YtdllbdfchloijaaGreatDoor
open Num
open Go.ChangeShapes Go.WideShapes Go.ChangeAt Go.RowKit
set_option linter.unusedVariables false
set_option linter.unusedSimpArgs false
attribute [local go_sem ↓] Go.wp_at_zero Go.wp_at_succ
end Go.Proofs.YtdllbdfchloijaaGreatDoor

/- matrix: Inverse's function value. -/
namespace Go.Proofs.YtdllbdfchloijaaGreatDoor
open Num
open Go.ChangeShapes Go.WideShapes Go.ChangeAt Go.RowKit
set_option linter.unusedVariables false
set_option linter.unusedSimpArgs false
attribute [local go_sem ↓] Go.wp_at_zero Go.wp_at_succ
end Go.Proofs.YtdllbdfchloijaaGreatDoor

/- matrix: Inverse. -/
namespace Go.Proofs.YtdllbdfchloijaaGreatDoor
open Num
open Go.ChangeShapes Go.WideShapes Go.ChangeAt Go.RowKit
set_option linter.unusedVariables false
set_option linter.unusedSimpArgs false
attribute [local go_sem ↓] Go.wp_at_zero Go.wp_at_succ
theorem prow_out {base : Nat} {w w' : World} {v : Value} {l : List Int} {X : Nat → Prop} (h : PRow base w v l) (ho : Out X w w') (hx : ∀ k, base ≤ k → ¬ X k) (hl : Lim w w') : PRow base w' v l := by
  obtain ⟨a, c, e, h1, h2, h3⟩ := h
  refine ⟨a, c, e, h1, h2, ?_⟩
  rcases h3 with h3 | ⟨b, off, e2, hb, ht, hi⟩
  · exact .inl h3
  · exact .inr ⟨b, off, e2, hb, by rw [typ_of_block (w := w) (ho.block b (typ_lt ht) (hx b hb))]; exact ht, hi.out lims_int ho (hx b hb) hl⟩
theorem IsM.out {base : Nat} {w w' : World} {v : Value} {g : Grid} {X : Nat → Prop} (h : IsM base w v g) (ho : Out X w w') (hx : ∀ k, base ≤ k → ¬ X k) (hl : Lim w w') : IsM base w' v g := by
  obtain ⟨a, c, e, a', c', e2, h1, h2, h3⟩ := h
  refine ⟨a, c, e, a', c', e2, h1, h2, ?_⟩
  rcases h3 with h3 | ⟨b, off, e2, hb, ht, hi⟩
  · exact .inl h3
  · refine .inr ⟨b, off, e2, hb, by rw [typ_of_block (w := w) (ho.block b (typ_lt ht) (hx b hb))]; exact ht, fun k hk => ?_⟩
    obtain ⟨u, hu, hp⟩ := hi k hk
    exact ⟨u, okeep ho hu (hx b hb), prow_out hp ho hx hl⟩
/-- what Inverse holds -/
structure InvB (w w1 : World) (ag : Option Addr) (N cg : Nat) (bv : Value) (db gb : Nat) (d S : Int) (W : World) : Prop where
  g : VarI gb S W
  dd : VarI db d W
  m0 : W.cell? ⟨w.heap.size, 0, none⟩ = some (.slice ag N cg)
  r0 : W.cell? ⟨w.heap.size + 1, 0, none⟩ = some (.slice none 0 0)
  r0f : W.frozen? ⟨w.heap.size + 1, 0, none⟩ = false
  s0 : W.cell? ⟨w.heap.size + 1 + 1, 0, none⟩ = some (.bool false)
  s1 : W.cell? ⟨w.heap.size + 1 + 1, 1, none⟩ = some (.slice none 0 0)
  s0f : W.frozen? ⟨w.heap.size + 1 + 1, 0, none⟩ = false
  s1f : W.frozen? ⟨w.heap.size + 1 + 1, 1, none⟩ = false
  b5 : W.cell? ⟨w1.heap.size, 0, none⟩ = some bv
  b1 : Below w1.heap.size w1 W
  bel : Below w.heap.size w W
section
variable {w w1 : World} {ag : Option Addr} {N cg : Nat} {bv : Value} {db gb : Nat} {d S : Int} {W W' : World}
theorem InvB.keep (h : InvB w w1 ag N cg bv db gb d S W) (k : Below W.heap.size W W') : InvB w w1 ag N cg bv db gb d S W' :=
  ⟨h.g.keep k, h.dd.keep k, bkeep k h.m0, bkeep k h.r0, bkeepf k h.r0 h.r0f, bkeep k h.s0, bkeep k h.s1, bkeepf k h.s0 h.s0f, bkeepf k h.s1 h.s1f, bkeep k h.b5, bthen h.b1 k, bthen h.bel k⟩
end
end Go.Proofs.YtdllbdfchloijaaGreatDoor

/- row: Text; matrix: Text. -/
namespace Go.Proofs.YtdllbdfchloijaaGreatDoor
open Num
open Go.ChangeShapes Go.WideShapes Go.ChangeAt Go.RowKit
set_option linter.unusedVariables false
set_option linter.unusedSimpArgs false
attribute [local go_sem ↓] Go.wp_at_zero Go.wp_at_succ
end Go.Proofs.YtdllbdfchloijaaGreatDoor

/- matrix's laws: list; Pivots as a value; works answers true. -/
namespace Go.Proofs.YtdllbdfchloijaaGreatDoor
open Num
open Go.ChangeShapes Go.WideShapes Go.ChangeAt Go.RowKit
set_option linter.unusedVariables false
set_option linter.unusedSimpArgs false
attribute [local go_sem ↓] Go.wp_at_zero Go.wp_at_succ
end Go.Proofs.YtdllbdfchloijaaGreatDoor

