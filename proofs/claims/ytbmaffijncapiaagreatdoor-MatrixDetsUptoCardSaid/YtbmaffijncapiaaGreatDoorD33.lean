/- The reference: Pivots, by fractions. -/
import Derived.Test.YtbmaffijncapiaaGreatDoorD32
import Derived.Test.YtbmaffijncapiaaGreatDoorD26
set_option linter.unusedVariables false
set_option linter.unusedSimpArgs false
namespace Go.Proofs.YtbmaffijncapiaaGreatDoor
open Num
open Go.ChangeShapes Go.WideShapes Go.ChangeAt Go.RowKit
set_option linter.unusedVariables false
set_option linter.unusedSimpArgs false
attribute [local go_sem ↓] Go.wp_at_zero Go.wp_at_succ
structure PvS (w : World) (base top B n m : Nat) (wr : World) (pv : Value) (s : Det.PS) : Prop where
  bel : Below w.heap.size w wr
  rows : ∃ bs, FrRows base top B n m wr bs s.l
  piv : OwnL 3 PInt w wr pv s.p
section
variable {w : World} {base top B n m : Nat} {wr w' w7 : World} {pv : Value} {s : Det.PS}
theorem PvS.keep (h : PvS w base top B n m wr pv s) (k : Below wr.heap.size wr w') : PvS w base top B n m w' pv s :=
  ⟨bthen h.bel k, by obtain ⟨bs, hb⟩ := h.rows; exact ⟨bs, hb.keep k⟩, h.piv.below prs_pint k⟩
theorem PvS.swap (h : PvS w base top B n m wr pv s) {bs : Nat → Nat} (hr : FrRows base top B n m wr bs s.l) (hwb : w.heap.size ≤ base) {i k : Nat} (hi : i < n) (hk : k < n) {ci ck : Nat} (hci : wr.cell? ⟨B, i, none⟩ = some (.slice (some ⟨bs i, 0, none⟩) m ci)) (hck : wr.cell? ⟨B, k, none⟩ = some (.slice (some ⟨bs k, 0, none⟩) m ck)) (mi : m ≤ ci) (mk : m ≤ ck) :
    PvS w base top B n m ((wr.setCell ⟨B, i, none⟩ (.slice (some ⟨bs k, 0, none⟩) m ck)).setCell ⟨B, k, none⟩ (.slice (some ⟨bs i, 0, none⟩) m ci)) pv ⟨Det.swap s.l i k, s.p⟩ := by
  have h1 := hr.lo
  have ho : Out (fun q => q = B) wr ((wr.setCell ⟨B, i, none⟩ (.slice (some ⟨bs k, 0, none⟩) m ck)).setCell ⟨B, k, none⟩ (.slice (some ⟨bs i, 0, none⟩) m ci)) := ((Out.refl (fun q => q = B) wr).set (p := ⟨B, i, none⟩) (fun _ => show B = B from rfl) _).set (p := ⟨B, k, none⟩) (fun _ => show B = B from rfl) _
  have hk0 : Kp (fun t => t ≠ 43) wr ((wr.setCell ⟨B, i, none⟩ (.slice (some ⟨bs k, 0, none⟩) m ck)).setCell ⟨B, k, none⟩ (.slice (some ⟨bs i, 0, none⟩) m ci)) := Kp.out ho (fun q t hq ht => by subst hq; rw [hr.tB] at ht; cases ht; exact fun hh => hh rfl)
  have hb := bset (bset h.bel (p := ⟨B, i, none⟩) (by show w.heap.size ≤ B; omega) (.slice (some ⟨bs k, 0, none⟩) m ck)) (p := ⟨B, k, none⟩) (by show w.heap.size ≤ B; omega) (.slice (some ⟨bs i, 0, none⟩) m ci)
  exact ⟨hb, ⟨_, hr.swap hi hk hci hck mi mk⟩, h.piv.kp prs_pint hk0 (fun _ hf => hf.elim) (by decide) hb⟩
theorem PvS.rowsOut (h : PvS w base top B n m w7 pv s) {bs : Nat → Nat} (hr : FrRows base top B n m w7 bs s.l) {g' : Det.M} (ho : Out (fun q => ∃ r, r < n ∧ q = bs r) w7 wr) (hr' : FrRows base top B n m wr bs g') (hwb : w.heap.size ≤ base) : PvS w base top B n m wr pv ⟨g', s.p⟩ := by
  have hk0 : Kp (fun t => t ≠ 91) w7 wr := Kp.out ho (fun q t hq ht => by obtain ⟨r, hr1, rfl⟩ := hq; rw [(hr.blk r hr1).ty] at ht; cases ht; exact fun hh => hh rfl)
  have hx : ∀ q, q < w.heap.size → ¬ ∃ r, r < n ∧ q = bs r := fun q hq ⟨r, h1, h2⟩ => by have := hr.lob r h1; omega
  have hbel : Below w.heap.size w wr := h.bel.trans (ho.to_below (fun q hq _ => hx q hq) h.bel.size)
  exact ⟨hbel, ⟨bs, hr'⟩, h.piv.kp prs_pint hk0 (fun _ hf => hf.elim) (by decide) hbel⟩
theorem FrRows.kp {bs : Nat → Nat} {g : Det.M} {S : TypeId → Prop} (h : FrRows base top B n m wr bs g) (k : Kp S wr w') (h1 : S 91) (h2 : S 43) (h3 : S 177) : FrRows base top B n m w' bs g := by
  refine ⟨k.typ h.tB h2, h.lo, h.hi, ⟨typ_lt (k.typ h.tB h2), fun j => by rw [World.frozen?_of_block (w := wr) (k _ _ h.tB h2)]; exact h.fB.2 j⟩, fun i hi => ?_, h.lob, h.hib, h.inj, fun i hi => (h.blk i hi).kp frk_ref k h3 h1⟩
  obtain ⟨c, hc, hm⟩ := h.cell i hi
  exact ⟨c, k.cell h.tB h2 hc, hm⟩
theorem PvS.pivots (h : PvS w base top B n m wr pv s) {v' : Value} {p' : List Nat} (k : Kp (fun t => t ≠ 3) wr w') (hO : OwnL 3 PInt w w' v' p') : PvS w base top B n m w' v' ⟨s.l, p'⟩ :=
  ⟨hO.bel, by obtain ⟨bs, hb⟩ := h.rows; exact ⟨bs, hb.kp k (by decide) (by decide) (by decide)⟩, hO⟩
end
set_option maxRecDepth 100000 in
set_option maxHeartbeats 32000000 in
theorem rpivs_c (va : Value) (g : Grid) (K : Nat) (w : World) (ha : RefM w va g) (rg : Rct g (cols g)) (hn : g.length ≤ 65536) (hc : cols g ≤ 65536) (hn0 : 0 < g.length) (hm0 : 0 < cols g) (hK1 : 1 ≤ K) (hbd : BdM K g) (hK : kq K (cols g) ≤ 1000000000) :
    Calls Tryz.prog 64 #[va] w fun e w' => (∃ a c, e = .returned (.slice a (pivL g).length c) ∧ IsL 3 PInt w.heap.size w' (.slice a (pivL g).length c) (pivL g)) ∧ Below w.heap.size w w' := by
  have RC := Lib.hid (fun V (q : Below w.heap.size w V) => rats_c va g (cols g) V (ha.keep q) rg hn hc hn0 hm0)
  have CC := Lib.hid (fun V (q : Below w.heap.size w V) => rcols_c va g V (ha.keep q))
  obtain ⟨aa, ca, rfl, -⟩ : ∃ a c, va = .slice a g.length c ∧ True := by obtain ⟨a, c, e, _⟩ := (show IsL 110 (RRow 0) 0 w va g from ha).view; exact ⟨a, c, e, trivial⟩
  have HPE := Lib.hid (show (Det.pvR g.length (Det.cst (gat g)) (cols g)).p = pivL g from (Det.pv_el g.length (cols g) (gat g) (cols g) (Nat.le_refl _)).1)
  rw [← HPE.out]
  have HBA := Lib.hid (show BdR g.length (cols g) K (Det.cst (gat g)) from fun r c _ _ => BdQ.whole (hbd r c) hK1)
  obtain ⟨A, hA⟩ : ∃ A, Det.cst (gat g) = A := ⟨_, rfl⟩
  rw [hA] at RC HBA ⊢
  obtain ⟨n, hnE⟩ : ∃ n, g.length = n := ⟨_, rfl⟩
  obtain ⟨m, hmE⟩ : ∃ m, cols g = m := ⟨_, rfl⟩
  rw [hmE] at RC CC HBA hc hm0 hK ⊢
  rw [hnE] at RC HBA hn hn0 CC ⊢
  have HJB := Lib.hid (fun t (ht : t ≤ m) => pv_bd HBA.out t ht)
  clear ha rg hbd hA hnE hmE HPE
  have hB := Below.refl w.heap.size w
  go_enter Tryz.func64, Tryz.ntmps64
  go_wp2_with fail
  (with_reducible refine (RC.out _ ?_).mono ?_); (repeat (first|exact bzR _ _|exact hB|refine bzD ?_|refine bzN ?_|refine bzS ?_|refine bzA ?_))
  unfold RatsPost
  rintro e w2 ⟨⟨B, bc, bs, rfl, hbc, hR⟩, hb2⟩
  have hB2 : Below w.heap.size w w2 := bthen (by repeat (first|exact bzR _ _|exact hB|refine bzD ?_|refine bzN ?_|refine bzS ?_|refine bzA ?_)) hb2
  have H0 := Lib.hid (show PvS w w.heap.size w2.heap.size B n m w2 (.slice none 0 0) (Det.pvR n A 0) from ⟨hB2, ⟨_, hR⟩, OwnL.nil _ _ hB2⟩)
  obtain ⟨base, hbase⟩ : ∃ b, w.heap.size = b := ⟨_, rfl⟩
  obtain ⟨top, htop⟩ : ∃ b, w2.heap.size = b := ⟨_, rfl⟩
  have hwb : w.heap.size ≤ base := by omega
  have H0 := Lib.hid (show PvS w base top B n m w2 (.slice none 0 0) (Det.pvR n A 0) from by rw [← hbase, ← htop]; exact H0.out)
  clear RC hR hb2 hbase htop hB
  go_wp2
  go_loopw [4, 5] (fun pv x wr => ∃ j : Nat, j ≤ m ∧ x = .int .i64 j ∧ Hid (PvS w base top B n m wr pv (Det.pvR n A j))) (fun _ x _ => m - (intOf x).toNat)
  case atStart => exact ⟨0, Nat.zero_le _, rfl, H0⟩
  case round =>
    obtain ⟨j, hj, rfl, HS⟩ := hrel
    have hBr := HS.out.bel
    have hjb := HJB.out j hj
    have hpl := Det.pv_len n A j
    have HNX := Lib.hid (show Det.pvR n A (j + 1) = Det.pvStep n (Det.pvR n A j) j from rfl)
    obtain ⟨s, hs⟩ : ∃ s, Det.pvR n A j = s := ⟨_, rfl⟩
    rw [hs] at HS hjb hpl HNX
    have HBD := Lib.hid hjb
    have HSS := Lib.hid hs
    clear hs hjb
    obtain ⟨k, hk⟩ : ∃ k, s.p.length = k := ⟨_, rfl⟩
    obtain ⟨pa, pc, hpv⟩ := HS.out.piv.ex
    rw [hk] at hpv hpl
    subst hpv
    have HKK := Lib.hid hk
    clear hk
    obtain ⟨wq, hwq⟩ : ∃ wq, wr = wq := ⟨_, rfl⟩
    rw [hwq] at HS hBr ⊢
    clear hwq
    have hBq := Below.refl wq.heap.size wq
    go_wp2_with fail
    (with_reducible refine (CC.out _ ?_).mono ?_); (repeat (first|exact bzR _ _|exact hBr|refine bzD ?_|refine bzN ?_|refine bzS ?_|refine bzA ?_))
    rintro e w3 ⟨rfl, hb3⟩
    have hk3 : Below wq.heap.size wq w3 := bthen (by repeat (first|exact bzR _ _|exact hBq|refine bzD ?_|refine bzN ?_|refine bzS ?_|refine bzA ?_)) hb3
    have HS3 := Lib.hid (HS.out.keep hk3)
    clear hb3 hk3 HS hBr hBq
    by_cases hlt : j < m
    · have hltI : (j : Int) < (m : Int) := by omega
      obtain ⟨bs', hr⟩ := HS3.out.rows
      have hBw := Below.refl w3.heap.size w3
      have FC := Lib.hid (fun V (q : Below w3.heap.size w3 V) => first_c base top B n m k j bc bs' s.l V (hr.keep q) hpl hlt hbc hn)
      have hge := Det.frQ_ge s.l j (n - k) k
      have hat := Det.frQ_at s.l j (n - k) k
      obtain ⟨i, hi⟩ : ∃ i, Det.frQ s.l j (n - k) k = i := ⟨_, rfl⟩
      have HI := Lib.hid hi
      rw [hi] at FC hge hat
      have HAT := Lib.hid hat
      have hKj : kq K (j + 1) ≤ 1000000000 := Nat.le_trans (kq_mono K (by omega)) hK
      rw [kq_succ] at hKj
      have hki : k ≤ i := hge.1
      have hin' : i ≤ n := by omega
      clear hr hi hge hat
      go_wp2_with fail
      (with_reducible refine (FC.out _ ?_).mono ?_); (repeat (first|exact bzR _ _|exact hBw|refine bzD ?_|refine bzN ?_|refine bzS ?_|refine bzA ?_))
      rintro e w4 ⟨rfl, hb4⟩
      have hk4 : Below w3.heap.size w3 w4 := bthen (by repeat (first|exact bzR _ _|exact hBw|refine bzD ?_|refine bzN ?_|refine bzS ?_|refine bzA ?_)) hb4
      have HS4 := Lib.hid (HS3.out.keep hk4)
      clear FC hb4 hk4 HS3 hBw
      by_cases hin : i = n
      · have dI : ((i : Int) == (n : Int)) = true := by simp [hin]
        have HNN := Lib.hid (show Det.pvR n A (j + 1) = s from by
          rw [HNX.out]; unfold Det.pvStep; rw [HKK.out, HI.out, if_pos hin])
        clear HI HAT hin HNX
        go_wp2
        exact ⟨⟨j + 1, hlt, by go_num, by rw [HNN.out]; exact HS4⟩, meas hlt (by go_num) rfl⟩
      · have hin2 : i < n := by omega
        have hkn : k < n := by omega
        have hp : s.l i j ≠ 0 := HAT.out (by omega)
        have HNN := Lib.hid (show Det.pvR n A (j + 1) = ⟨Det.clr (Det.swap s.l i k) k j, s.p ++ [j]⟩ from by
          rw [HNX.out]; unfold Det.pvStep; rw [HKK.out, HI.out, if_neg hin])
        have dI : ((i : Int) == (n : Int)) = false := by simpa using (show ¬ (i : Int) = (n : Int) by omega)
        obtain ⟨bs4, hr4⟩ := HS4.out.rows
        obtain ⟨ci, hci, hmi⟩ := hr4.cell i hin2
        obtain ⟨ck, hck, hmk⟩ := hr4.cell k hkn
        have hfi := hr4.fB.2 i
        have hfk := hr4.fB.2 k
        have zB := cell_lt hci
        have hkI : (k : Int) < (n : Int) := by omega
        have hiI : (i : Int) < (n : Int) := by omega
        have HSW := Lib.hid (HS4.out.swap hr4 hwb hin2 hkn hci hck hmi hmk)
        have HBS := Lib.hid (HBD.out.swap hin2 hkn)
        have HPP := Lib.hid (show Det.swap s.l i k k j ≠ 0 by rw [Det.swap_piv]; exact hp)
        clear HI HAT hin HNX HBD hr4 hp
        by_cases hik : i = k
        · have hik' := hik.symm
          subst hik'
          clear hik
          have hcc := hci.symm.trans hck
          cases hcc
          go_wp2
          go_region
          all_goals
            have hdr := (Below.refl ((w4.setCell ⟨B, k, none⟩ (.slice (some ⟨bs4 k, 0, none⟩) m ci)).setCell ⟨B, k, none⟩ (.slice (some ⟨bs4 k, 0, none⟩) m ci)).heap.size ((w4.setCell ⟨B, k, none⟩ (.slice (some ⟨bs4 k, 0, none⟩) m ci)).setCell ⟨B, k, none⟩ (.slice (some ⟨bs4 k, 0, none⟩) m ci))).drew
            have HS6 := Lib.hid (HSW.out.keep hdr)
            obtain ⟨w6, hw6⟩ : ∃ w6, ((w4.setCell ⟨B, k, none⟩ (.slice (some ⟨bs4 k, 0, none⟩) m ci)).setCell ⟨B, k, none⟩ (.slice (some ⟨bs4 k, 0, none⟩) m ci)).drew = w6 := ⟨_, rfl⟩
            rw [hw6] at HS6 ⊢
            obtain ⟨L6, hL6⟩ : ∃ x, Det.swap s.l k k = x := ⟨_, rfl⟩
            rw [hL6] at HS6 HBS HPP HNN
            obtain ⟨bs6, hr6⟩ := HS6.out.rows
            have HR6 := Lib.hid hr6
            have LC := Lib.hid (fun V (h : FrRows base top B n m V bs6 L6) => clearR_c base top B n m k j (kq K j) bc bs6 L6 V h hkn hlt HPP.out HBS.out (by omega) hn hc hbc)
            clear hdr hw6 HSW hci hfi hfk zB hL6 hr6
            go_wp2_with fail
            refine (LC.out _ HR6.out).mono ?_
            rintro e w9 ⟨rfl, hr9, ho9⟩
            have HS9 := Lib.hid (HS6.out.rowsOut HR6.out ho9 hr9 hwb)
            have hkb : s.p.length = k := HKK.out
            have hLL : (s.p.length + 1) * 8 ≤ 140737488355328 := by rw [hkb]; omega
            have hLM : s.p.length + 1 ≤ maxLen := by rw [hkb]; unfold maxLen; omega
            clear LC HS6 HR6 ho9 hr9
            go_wp2_with (at_builtin; refine appL elInts prs_pint (fun h => h) (by rfl) (by rfl) (HS9.out.piv.below prs_pint (bal (Below.refl _ _) _)) (show PInt _ (.int .i64 (j : Nat)) j from rfl) (by rfl) (by rfl) (cell_new (by simp) rfl) hLL hLM ?_)
            intro v10 w10 hO10 hk10
            have HE10 := Lib.hid (show PvS w base top B n m w10 v10 (Det.pvR n A (j + 1)) from by rw [HNN.out]; exact (HS9.out.keep (bal (Below.refl _ _) _)).pivots hk10 hO10)
            clear hO10 hk10 HS9
            go_wp2
            exact ⟨⟨j + 1, hlt, by go_num, HE10⟩, meas hlt (by go_num) rfl⟩
        · have hnik : ¬ k = i := fun e => hik e.symm
          go_wp2
          go_region
          all_goals
            have hdr := (Below.refl ((w4.setCell ⟨B, i, none⟩ (.slice (some ⟨bs4 k, 0, none⟩) m ck)).setCell ⟨B, k, none⟩ (.slice (some ⟨bs4 i, 0, none⟩) m ci)).heap.size ((w4.setCell ⟨B, i, none⟩ (.slice (some ⟨bs4 k, 0, none⟩) m ck)).setCell ⟨B, k, none⟩ (.slice (some ⟨bs4 i, 0, none⟩) m ci))).drew
            have HS6 := Lib.hid (HSW.out.keep hdr)
            obtain ⟨w6, hw6⟩ : ∃ w6, ((w4.setCell ⟨B, i, none⟩ (.slice (some ⟨bs4 k, 0, none⟩) m ck)).setCell ⟨B, k, none⟩ (.slice (some ⟨bs4 i, 0, none⟩) m ci)).drew = w6 := ⟨_, rfl⟩
            rw [hw6] at HS6 ⊢
            obtain ⟨L6, hL6⟩ : ∃ x, Det.swap s.l i k = x := ⟨_, rfl⟩
            rw [hL6] at HS6 HBS HPP HNN
            obtain ⟨bs6, hr6⟩ := HS6.out.rows
            have HR6 := Lib.hid hr6
            have LC := Lib.hid (fun V (h : FrRows base top B n m V bs6 L6) => clearR_c base top B n m k j (kq K j) bc bs6 L6 V h hkn hlt HPP.out HBS.out (by omega) hn hc hbc)
            clear hdr hw6 HSW hci hfi hfk zB hL6 hr6
            go_wp2_with fail
            refine (LC.out _ HR6.out).mono ?_
            rintro e w9 ⟨rfl, hr9, ho9⟩
            have HS9 := Lib.hid (HS6.out.rowsOut HR6.out ho9 hr9 hwb)
            have hkb : s.p.length = k := HKK.out
            have hLL : (s.p.length + 1) * 8 ≤ 140737488355328 := by rw [hkb]; omega
            have hLM : s.p.length + 1 ≤ maxLen := by rw [hkb]; unfold maxLen; omega
            clear LC HS6 HR6 ho9 hr9
            go_wp2_with (at_builtin; refine appL elInts prs_pint (fun h => h) (by rfl) (by rfl) (HS9.out.piv.below prs_pint (bal (Below.refl _ _) _)) (show PInt _ (.int .i64 (j : Nat)) j from rfl) (by rfl) (by rfl) (cell_new (by simp) rfl) hLL hLM ?_)
            intro v10 w10 hO10 hk10
            have HE10 := Lib.hid (show PvS w base top B n m w10 v10 (Det.pvR n A (j + 1)) from by rw [HNN.out]; exact (HS9.out.keep (bal (Below.refl _ _) _)).pivots hk10 hO10)
            clear hO10 hk10 HS9
            go_wp2
            exact ⟨⟨j + 1, hlt, by go_num, HE10⟩, meas hlt (by go_num) rfl⟩
    · obtain rfl : j = m := by omega
      have hltI : ¬ (j : Int) < (j : Int) := by omega
      have HR := Lib.hid (show IsL 3 PInt w.heap.size w3 _ s.p from HS3.out.piv.isL)
      have hBf := HS3.out.bel
      have hkb : s.p.length = k := HKK.out
      go_wp2
      go_ret
      rw [HSS.out, hkb]
      exact ⟨⟨_, _, rfl, HR.out⟩, hBf⟩
end Go.Proofs.YtbmaffijncapiaaGreatDoor

