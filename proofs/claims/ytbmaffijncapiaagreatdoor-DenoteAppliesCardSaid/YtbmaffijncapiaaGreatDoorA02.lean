/- Texts of this seat, laid together: DwH, RxG, DwT, DnV, DwU, Wo. What each theorem proves, and under which conditions, its statement says. -/
import Derived.Test.YtbmaffijncapiaaGreatDoorA01
import Derived.SizedLaws
set_option maxRecDepth 100000
set_option maxHeartbeats 32000000
set_option linter.unusedVariables false
set_option linter.unusedSimpArgs false
namespace Go.Proofs.YtbmaffijncapiaaGreatDoor
open Num
theorem endA_ok {ins regs : Int} {code : List Ins} {outs l : List Int} {h : GridF} (hp : ProgOk ins regs code outs) (hb : ∀ j, Bd 65000 (l.getD j 0)) (e : endA l regs code = some h) : RectF 1 (outsF outs h) ∧ SlimG (outsF outs h) := by
 unfold endA at e
 have hl := (afterF_len e).trans (inF_len _ _)
 have hk := afterF_ok (inF_rect l regs.toNat) (inF_slim regs.toNat hb) (fun n hn => by have := ins_ofF hp hn; rw [inF_len]; exact ⟨this.a0, this.a1⟩) (Nat.le_refl _) e
 have hi : ∀ i, i < outs.length → (outs.getD i 0).toNat < h.length := fun i hi => by have := hp.os i hi; omega
 refine ⟨fun i hj => ?_, fun i hj => ?_⟩
 · rw [outsF_len] at hj; rw [outsF_get hj]; exact hk.1 _ (hi i hj)
 · rw [outsF_len] at hj; rw [outsF_get hj]; exact hk.2 _ (hi i hj)
theorem flat1 : ∀ {g : GridF}, RectF 1 g → ∀ i, g.flatten.getD i 0 = (g.getD i []).getD 0 0
 | [], _, i => by simp
 | r :: g, h, i => by
  have h0 : r.length = 1 := h 0 (by simp)
  obtain ⟨q, rfl⟩ : ∃ q, r = [q] := List.length_eq_one_iff.1 h0
  cases i with
  | zero => rfl
  | succ i => exact flat1 (g := g) (fun j hj => h (j + 1) (by simpa using hj)) i
theorem slim_flat {g : GridF} (h1 : RectF 1 g) (h2 : SlimG g) {i : Nat} (hi : i < g.length) : BdQ 65536 (g.flatten.getD i 0) := by
 rw [flat1 h1]
 exact h2 i hi 0 (by rw [h1 i hi]; omega)
end Go.Proofs.YtbmaffijncapiaaGreatDoor
namespace Go.Proofs.YtbmaffijncapiaaGreatDoor
open Go.ChangeShapes Go.WideShapes Go.ChangeAt Go.RowKit
section
open Num
attribute [local go_sem ↓] Go.wp_at_zero Go.wp_at_succ
def colF (l : List Int) : GridF := l.map fun z : Int => [((z : Int) : Rat)]
theorem colF_len (l : List Int) : (colF l).length = l.length := by simp [colF]
theorem colF_get {l : List Int} {i : Nat} (h : i < l.length) : (colF l).getD i [] = [((l.getD i 0 : Int) : Rat)] := by simp [colF, h]
theorem colF_rect (l : List Int) : RectF 1 (colF l) := fun i hi => by rw [colF_len] at hi; rw [colF_get hi]; rfl
theorem ext_col {l : List Int} {R : Nat} : extF (colF l) R 1 = inF l R := by
 unfold extF inF
 apply List.map_congr_left
 intro k hk
 rw [colF_len]
 by_cases e : k < l.length
 · rw [colF_get e]; simp [e]
 · simp [e]
theorem FR.new1 {w : World} {n1 n2 : Bool} {a1 a2 : Option Addr} {l1 c1 l2 c2 : Nat} {q : Rat} (h : IsQR w (.agg #[.bool n1, .slice a1 l1 c1, .bool n2, .slice a2 l2 c2]) q) : FR (w.alloc (.cells #[.bool n1, .slice a1 l1 c1, .bool n2, .slice a2 l2 c2] 91)) (.slice (some ⟨w.heap.size, 0, none⟩) 1 1) [q] :=
 ⟨_, _, rfl, Nat.le_refl _, .inr ⟨w.heap.size, 0, rfl, Nat.zero_le _, typ_fresh rfl, fun k hk => by
  have : k = 0 := by simpa using hk
  subst this
  exact ⟨_, _, _, _, _, _, _, _, cell_new rfl rfl, cell_new rfl rfl, cell_new rfl rfl, cell_new rfl rfl, h.keep (bal (Below.refl _ _) _)⟩⟩⟩
def AppRR (ins regs : Int) (code : List Ins) (outs : List Int) (l : List Int) (w' : World) (v : Value) (q : Int) : Prop :=
 (AppNo ins regs code outs l q ∧ v = .slice none 0 0) ∨
 (ProgOk ins regs code outs ∧ (l.length : Int) = ins ∧ q = 0 ∧ ∃ h, endA l regs code = some h ∧ FR w' v (outsF outs h).flatten)
def AppRP (ins regs : Int) (code : List Ins) (outs : List Int) (l : List Int) (w : World) (e : Ending) (w' : World) : Prop := (∃ v q, e = .returned (.tuple #[v, .int .i64 q]) ∧ AppRR ins regs code outs l w' v q) ∧ Below w.heap.size w w'
theorem AppRP.no {ins regs : Int} {code : List Ins} {outs : List Int} {l : List Int} {w w' : World} {q : Int} (h : AppNo ins regs code outs l q) (hb : Below w.heap.size w w') : AppRP ins regs code outs l w (.returned (.tuple #[.slice none 0 0, .int .i64 q])) w' := ⟨⟨_, _, rfl, .inl ⟨h, rfl⟩⟩, hb⟩
theorem AppRP.yes {ins regs : Int} {code : List Ins} {outs : List Int} {l : List Int} {w w' : World} {h : GridF} {v : Value} (h1 : ProgOk ins regs code outs) (h2 : (l.length : Int) = ins) (h3 : endA l regs code = some h) (h4 : FR w' v (outsF outs h).flatten) (hb : Below w.heap.size w w') : AppRP ins regs code outs l w (.returned (.tuple #[v, .int .i64 0])) w' := ⟨⟨_, _, rfl, .inr ⟨h1, h2, rfl, h, h3, h4⟩⟩, hb⟩
theorem rApply_c (ins regs : Int) (ca oa : Option Addr) (cc oc : Nat) (code : List Ins) (outs : List Int) (vl : Value) (l : List Int) (w : World) (hc : InsV w ca cc code) (ho : IntsV w oa oc outs) (hl : RRow 0 w vl l) (hb : ∀ j, Bd 65000 (l.getD j 0)) (hll : l.length ≤ 1099511627775) :
 Calls Tryz.prog 34 #[.agg #[.int .i64 ins, .int .i64 regs, .slice ca code.length cc, .slice oa outs.length oc], vl] w (AppRP ins regs code outs l w) := by
 have HC := hZ (And.intro hc ho)
 have HL := hZ hl
 have HBD := hZ hb
 obtain ⟨la, lc, rfl, hlc, hlv⟩ := hl.view
 have HLV := hZ hlv
 clear hc ho hl hb hlv
 have hB := Below.refl w.heap.size w
 by_cases hp : ProgOk ins regs code outs
 rotate_left
 · have RC := hZ (fun V (q : Below w.heap.size w V) => right_noR (HC.out.1.keep q) (HC.out.2.keep q) hp)
   have HR := hZ (show AppNo ins regs code outs l 80 from .inl ⟨hp, rfl⟩)
   clear hp
   go_enter Tryz.func34, Tryz.ntmps34
   go_wp2_with fail
   (with_reducible refine (RC.out _ ?_).mono ?_); (repeat (first|exact bzR _ _|exact hB|refine bzD ?_|refine bzN ?_|refine bzS ?_|refine bzA ?_))
   rintro e w1 ⟨rfl, hb1⟩
   have p0 : w1.cell? ⟨w.heap.size, 0, none⟩ = some (.int .i64 ins) := bkc hb1
   have zp0 := cell_lt p0
   have p1 : w1.cell? ⟨w.heap.size, 1, none⟩ = some (.int .i64 regs) := bkc hb1
   have p2 : w1.cell? ⟨w.heap.size, 2, none⟩ = some (.slice ca code.length cc) := bkc hb1
   have p3 : w1.cell? ⟨w.heap.size, 3, none⟩ = some (.slice oa outs.length oc) := bkc hb1
   have hB : Below w.heap.size w w1 := bthen bZ hb1
   have hz := hB.size
   clear RC hb1
   go_wp2
   refine bodyPost_ret (v := .tuple #[.slice none 0 0, .int .i64 80]) (by simp [results, Tryz.results34, go_sem]) rfl (AppRP.no HR.out ?_)
   repeat exact bZ
 have RC := hZ (fun V (q : Below w.heap.size w V) => right_yesR (HC.out.1.keep q) (HC.out.2.keep q) hp)
 by_cases hn : (l.length : Int) = ins
 rotate_left
 · have HR := hZ (show AppNo ins regs code outs l 5 from .inr (.inl ⟨hp, hn, rfl⟩))
   have hdn : ((l.length : Int) != ins) = true := by simpa using hn
   clear hp hn
   go_enter Tryz.func34, Tryz.ntmps34
   go_wp2_with fail
   (with_reducible refine (RC.out _ ?_).mono ?_); (repeat (first|exact bzR _ _|exact hB|refine bzD ?_|refine bzN ?_|refine bzS ?_|refine bzA ?_))
   rintro e w1 ⟨rfl, hb1⟩
   have p0 : w1.cell? ⟨w.heap.size, 0, none⟩ = some (.int .i64 ins) := bkc hb1
   have zp0 := cell_lt p0
   have p1 : w1.cell? ⟨w.heap.size, 1, none⟩ = some (.int .i64 regs) := bkc hb1
   have p2 : w1.cell? ⟨w.heap.size, 2, none⟩ = some (.slice ca code.length cc) := bkc hb1
   have p3 : w1.cell? ⟨w.heap.size, 3, none⟩ = some (.slice oa outs.length oc) := bkc hb1
   have hB : Below w.heap.size w w1 := bthen bZ hb1
   have hz := hB.size
   clear RC hb1
   go_wp2
   refine bodyPost_ret (v := .tuple #[.slice none 0 0, .int .i64 5]) (by simp [results, Tryz.results34, go_sem]) rfl (AppRP.no HR.out ?_)
   repeat exact bZ
 obtain ⟨R, rfl⟩ : ∃ R : Nat, regs = R := ⟨regs.toNat, by have := hp.i1; have := hp.i2; omega⟩
 have i1 := hp.i1
 have i2 := hp.i2
 have r1 := hp.r1
 obtain ⟨n, hln⟩ : ∃ n, l.length = n := ⟨_, rfl⟩
 have HLN := hZ hln
 have HRUN := hZ (fun vin b0 V (q : Below w.heap.size w V) (hin : SetR b0 V vin (colF l)) => (show Calls Tryz.prog 100 #[.agg #[.int .i64 ins, .int .i64 (R : Int), .slice ca code.length cc, .slice oa outs.length oc], vin, .int .i64 1] V (fun e w' => (∃ vs vo b, e = .returned (.tuple #[vs, vo, .bool b]) ∧ RunRF code outs (inF l R) V.heap.size w' vs vo b) ∧ Below V.heap.size V w') from by
  have h := rRun_c ins R 1 ca oa cc oc code outs vin (colF l) b0 V (HC.out.1.keep q) (HC.out.2.keep q) hin (fun m hm => by have := ins_ofF hp hm; rwa [Int.toNat_natCast] at this) hp.os (by omega) (by omega) (by rw [colF_len]; omega) (colF_rect l) (by rw [ext_col]; exact inF_slim R HBD.out) (by omega) hp.c1 hp.o2
  rw [ext_col] at h
  exact h.mono fun e w' k => k.form))
 have HOK := hZ hp
 have HNI := hZ hn
 have HEN := hZ (show ∀ h, afterF code (inF l R) code.length = some h → endA l (R : Int) code = some h from fun h e => by unfold endA; rw [Int.toNat_natCast]; exact e)
 have HNO := hZ (show afterF code (inF l R) code.length = none → AppNo ins (R : Int) code outs l 3 from fun e => .inr (.inr ⟨hp, hn, by unfold endA; rw [Int.toNat_natCast]; exact e, rfl⟩))
 have hdn : ((n : Int) != ins) = false := by rw [← hln]; simpa using hn
 have hn128 : n ≤ 128 := by omega
 have ho128 : outs.length ≤ 128 := hp.o2
 rw [hln] at HLV hlc ⊢
 clear hp hn i1 i2 r1 hln HL
 go_enter Tryz.func34, Tryz.ntmps34
 go_wp2_with fail
 (with_reducible refine (RC.out _ ?_).mono ?_); (repeat (first|exact bzR _ _|exact hB|refine bzD ?_|refine bzN ?_|refine bzS ?_|refine bzA ?_))
 rintro e w1 ⟨rfl, hb1⟩
 have p0 : w1.cell? ⟨w.heap.size, 0, none⟩ = some (.int .i64 ins) := bkc hb1
 have zp0 := cell_lt p0
 have p1 : w1.cell? ⟨w.heap.size, 1, none⟩ = some (.int .i64 (R : Int)) := bkc hb1
 have p2 : w1.cell? ⟨w.heap.size, 2, none⟩ = some (.slice ca code.length cc) := bkc hb1
 have p3 : w1.cell? ⟨w.heap.size, 3, none⟩ = some (.slice oa outs.length oc) := bkc hb1
 have hB : Below w.heap.size w w1 := bthen bZ hb1
 have hz := hB.size
 clear RC hb1
 have HB1 := hZ hB
 have h11 := Below.refl w1.heap.size w1
 have HP := hZ (show ∀ W, Below w1.heap.size w1 W → W.cell? ⟨w.heap.size, 0, none⟩ = some (.int .i64 ins) ∧ W.cell? ⟨w.heap.size, 1, none⟩ = some (.int .i64 (R : Int)) ∧ W.cell? ⟨w.heap.size, 2, none⟩ = some (.slice ca code.length cc) ∧ W.cell? ⟨w.heap.size, 3, none⟩ = some (.slice oa outs.length oc) from fun W q => ⟨bkeep q p0, bkeep q p1, bkeep q p2, bkeep q p3⟩)
 go_wp2
 go_loopw [6, 7] (fun vo x wr => ∃ k : Nat, k ≤ n ∧ x = .int .i64 k ∧ Below w1.heap.size w1 wr ∧ Hid (SetR w1.heap.size wr vo ((colF l).take k))) (fun _ x _ => n - (intOf x).toNat)
 case atStart => exact ⟨0, Nat.zero_le _, rfl, h11, hZ (SetR.nil _ _)⟩
 case round =>
  obtain ⟨k, hk, rfl, hBr, hS⟩ := hrel
  by_cases hlt : k < n
  · have hltI : (k : Int) < (n : Int) := by omega
    obtain ⟨va, vc, hv⟩ := hS.out.ex
    subst hv
    have hll : ((colF l).take k).length = k := by rw [List.length_take, colF_len, HLN.out]; omega
    have HTK := hZ (list_take (d := ([] : List Rat)) (show k < (colF l).length by rw [colF_len, HLN.out]; exact hlt))
    rw [colF_get (by rw [HLN.out]; exact hlt)] at HTK
    obtain ⟨S, hS'⟩ : ∃ S, (colF l).take k = S := ⟨_, rfl⟩
    rw [hS'] at hS HTK hll
    rw [hS', hll]
    have hSk : Hid (SetR w1.heap.size wr (.slice va k vc) S) := by rw [hll] at hS; exact hS
    have HLL := hZ (show S.length + 1 ≤ 1099511627776 from by rw [hll]; omega)
    obtain ⟨lb, lo, nb, ad, len, cp, rfl, q0, q1, q2⟩ := HLV.out k hlt
    have hB0r := bthen HB1.out hBr
    have q0 := bkeep hB0r q0
    have q1 := bkeep hB0r q1
    have zq := cell_lt q0
    have HI := hZ (q2.keep hB0r)
    obtain ⟨z, hz⟩ : ∃ z, l.getD k 0 = z := ⟨_, rfl⟩
    rw [hz] at HI HTK
    have WC := hZ (fun V (q : Below wr.heap.size wr V) => rqWhole_c (.agg #[.bool nb, .slice ad len cp]) z V (HI.out.keep q))
    have hrr := Below.refl wr.heap.size wr
    clear hS hS' hll q2 hz
    go_wp2_with fail
    (with_reducible refine (WC.out _ ?_).mono ?_); (repeat (first|exact bzR _ _|exact hrr|refine bzD ?_|refine bzN ?_|refine bzS ?_|refine bzA ?_))
    rintro e w5 ⟨⟨u5, rfl, hu5⟩, hb5⟩
    have h5 : Below wr.heap.size wr w5 := bthen bZ hb5
    have HU5 := hZ hu5
    obtain ⟨m1, b1, k1, d1, m2, b2, k2, d2, rfl, -, -⟩ := hu5
    have h5A := bal h5 (Obj.cells #[.bool m1, .slice b1 k1 d1, .bool m2, .slice b2 k2 d2] 91)
    have HR5 := hZ (FR.new1 HU5.out)
    have HS5 := hZ (hSk.out.keep h5A)
    have hBA := bthen hBr h5A
    have HBZ := hZ hBA.size
    have HBA := hZ hBA
    clear hb5 h5 HU5 WC hrr q0 q1 h5A hBA hSk
    go_wp2_with (at_builtin; refine app_Rg (gb := w5.heap.size + 1) (by simp) (by rfl) (by rfl) HS5.out HR5.out HBZ.out (by rfl) (by rfl) HLL.out ?_)
    intro v' w9 hS9 ho9 hk9
    have HS9 := hZ hS9
    rw [HTK.out] at HS9
    have hB9 : Below w1.heap.size w1 w9 := HBA.out.trans (ho9.to_below (fun q hq hx e => by have := HS5.out.lt q e; omega) HBA.out.size)
    clear hS9 ho9 hk9
    go_wp2
    exact ⟨⟨k + 1, hlt, by go_num, hB9, HS9⟩, meas hlt (by go_num) rfl⟩
  · obtain rfl : k = n := by omega
    have hltI : ¬ (k : Int) < (k : Int) := by omega
    rw [List.take_of_length_le (by rw [colF_len, HLN.out]; exact Nat.le_refl _)] at hS
    obtain ⟨va, vc, hv⟩ := hS.out.ex
    subst hv
    rw [colF_len, HLN.out] at hS ⊢
    obtain ⟨p0, p1, p2, p3⟩ := HP.out wr hBr
    have zp := cell_lt p0
    have hB0r := bthen HB1.out hBr
    have hrr := Below.refl wr.heap.size wr
    go_wp2_with fail
    (with_reducible refine (HRUN.out _ _ _ (bthen hB0r ?_) (hS.out.keep ?_)).mono ?_); (repeat (first|exact bzR _ _|exact hrr|refine bzD ?_|refine bzN ?_|refine bzS ?_|refine bzA ?_)); (repeat (first|exact bzR _ _|exact hrr|refine bzD ?_|refine bzN ?_|refine bzS ?_|refine bzA ?_))
    rintro e w3 ⟨⟨vs, vo, b3, rfl, h3⟩, hb3⟩
    have hB3 : Below w.heap.size w w3 := bthen hB0r (bthen bZ hb3)
    obtain ⟨mm, -, hvs, hcase⟩ := h3
    obtain ⟨sa, sc, rfl⟩ := hvs.ex
    obtain ⟨sl, hsl⟩ : ∃ x, ((List.range mm).map (toldQ code (inF l R))).length = x := ⟨_, rfl⟩
    rw [hsl]
    clear hvs hsl HRUN hb3 hS
    rcases hcase with ⟨h, hend, rfl, hvo⟩ | ⟨hend, rfl, rfl⟩
    rotate_left
    · have HR := hZ (HNO.out hend)
      clear hend
      go_wp2
      refine bodyPost_ret (v := .tuple #[.slice none 0 0, .int .i64 3]) (by simp [results, Tryz.results34, go_sem]) rfl (AppRP.no HR.out ?_)
      repeat exact bZ
    have hrc := endA_ok HOK.out HBD.out (HEN.out h hend)
    have HY := hZ (fun w' v hv hb => AppRP.yes (w := w) (w' := w') (v := v) HOK.out HNI.out (HEN.out h hend) hv hb)
    have hfl : (outsF outs h).flatten.length = outs.length := by rw [flatF_len hrc.1, outsF_len, Nat.mul_one]
    have HFG := hZ (flat1 hrc.1)
    have HRC := hZ hrc.1
    have hvo2 := hvo
    obtain ⟨oa3, oc3, rfl⟩ := hvo2.ex
    obtain ⟨F, hF⟩ : ∃ F, outsF outs h = F := ⟨_, rfl⟩
    have HFL := hZ (show F.length = outs.length from by rw [← hF, outsF_len])
    rw [hF] at hvo HY hfl HFG HRC ⊢
    rw [HFL.out] at hvo ⊢
    have HVO := hZ hvo
    have HFF := hZ hfl
    have h33 := Below.refl w3.heap.size w3
    clear hrc hend hF hvo hvo2 hfl
    go_wp2
    go_loopw [11, 12] (fun vr x wz => ∃ i : Nat, i ≤ outs.length ∧ x = .int .i64 i ∧ Hid (FrOwn IsQR 91 w3 wz vr (F.flatten.take i))) (fun _ x _ => outs.length - (intOf x).toNat)
    case atStart => exact ⟨0, Nat.zero_le _, rfl, hZ (FrOwn.nil _ _ h33)⟩
    case round =>
     rename World => wz
     obtain ⟨i, hi, rfl, hO⟩ := hrel
     have hbz := hO.out.bel
     by_cases hlt2 : i < outs.length
     · have hltJ : (i : Int) < (outs.length : Int) := by omega
       obtain ⟨gb, gc, e1, -, -, -, -, hcell⟩ := (HVO.out.keep hbz).view (by rw [HFL.out]; omega)
       obtain ⟨rfl, -, rfl⟩ := Value.slice.inj e1
       obtain ⟨u, hu, hrow⟩ := hcell i (by rw [HFL.out]; exact hlt2)
       have hr1 : (F.getD i []).length = 1 := HRC.out i (by rw [HFL.out]; exact hlt2)
       obtain ⟨ra, rc, rfl⟩ := FrRow.ex hrow
       rw [hr1] at hu hrow
       obtain ⟨rb, ro, rfl, -, g1, gy1, s1, t1, g2, gy2, s2, t2, x0, x1, x2, x3, xI⟩ := FrRow.at hrow (show 0 < 1 by omega)
       rw [← HFG.out i] at xI
       simp only [Nat.zero_mul, Nat.add_zero] at x0 x1 x2 x3
       have HXI := hZ xI
       have HTK := hZ (list_take (d := (0 : Rat)) (show i < F.flatten.length by rw [HFF.out]; exact hlt2))
       have HLL := hZ (show (F.flatten.take i).length + 1 ≤ 1099511627776 from by rw [List.length_take, HFF.out]; omega)
       obtain ⟨x, hx⟩ : ∃ x, F.flatten.getD i 0 = x := ⟨_, rfl⟩
       rw [hx] at HXI HTK
       obtain ⟨L, hL⟩ : ∃ L, F.flatten.take i = L := ⟨_, rfl⟩
       rw [hL] at hO HTK HLL
       obtain ⟨fa, fc, hfv⟩ := hO.out.ex
       subst hfv
       have zu := cell_lt hu
       have zx := cell_lt x0
       clear hcell hrow e1 xI hx hL hr1
       go_wp2_with (at_builtin; refine app_q elRW (by decide) frk_ref (by rfl) (by rfl) hO.out HXI.out (by rfl) (by rfl) HLL.out ?_)
       intro v' w10 hO10 _ _
       have HO10 := hZ hO10
       rw [HTK.out] at HO10
       clear hO10
       go_wp2
       exact ⟨⟨i + 1, hlt2, by go_num, HO10⟩, meas hlt2 (by go_num) rfl⟩
     · obtain rfl : i = outs.length := by omega
       have hltJ : ¬ (outs.length : Int) < (outs.length : Int) := by omega
       rw [List.take_of_length_le (by rw [HFF.out]; exact Nat.le_refl _)] at hO
       have HRW := hZ (show FR wz _ F.flatten from FrRow.rebase hO.out.row (Nat.zero_le _))
       obtain ⟨fa, fc, hfv⟩ := hO.out.ex
       subst hfv
       rw [HFF.out] at HRW ⊢
       have hBf := bthen hB3 hbz
       clear hO
       go_wp2
       refine bodyPost_ret (v := .tuple #[.slice fa outs.length fc, .int .i64 0]) (by simp [results, Tryz.results34, go_sem]) rfl (HY.out _ _ HRW.out hBf)
end
section
open Num
attribute [local go_sem ↓] Go.wp_at_zero Go.wp_at_succ
theorem line1_c (va vb : Value) (x : Rat) (k : Nat) (w : World) (hx : IsQP w va x) (hy : IsQR w vb x) (bx : BdQ k x) (hk : k ≤ 1000000000) : Calls Tryz.prog 107 #[va, vb] w fun e w' => e = .returned (.bool true) ∧ Below w.heap.size w w' := by
 have TP := hZ (fun V (q : Below w.heap.size w V) => pqText_c va x k V (hx.keep q) bx hk)
 have TR := hZ (fun V (q : Below w.heap.size w V) => rqText_c vb x k V (hy.keep q) bx hk)
 obtain ⟨n1, a1, l1, c1, n2, a2, l2, c2, rfl, -, -⟩ := hx
 obtain ⟨n3, a3, l3, c3, n4, a4, l4, c4, rfl, -, -⟩ := hy
 obtain ⟨s, hs⟩ : ∃ s : ByteArray, (⟨(qTxt x).toArray⟩ : ByteArray) = s := ⟨_, rfl⟩
 rw [hs] at TP TR
 have hB := Below.refl w.heap.size w

 clear hs bx hk
 go_enter Tryz.func107, Tryz.ntmps107
 go_wp2
 refine wp_name fun w1 hW1 => ?_
 have x0 : w1.cell? ⟨w.heap.size, 0, none⟩ = some (.bool n1) := by rw [hW1]; simp [go_sem]
 have zx0 := cell_lt x0
 have x1 : w1.cell? ⟨w.heap.size, 1, none⟩ = some (.slice a1 l1 c1) := by rw [hW1]; simp [go_sem]
 have x2 : w1.cell? ⟨w.heap.size, 2, none⟩ = some (.bool n2) := by rw [hW1]; simp [go_sem]
 have x3 : w1.cell? ⟨w.heap.size, 3, none⟩ = some (.slice a2 l2 c2) := by rw [hW1]; simp [go_sem]
 have y0 : w1.cell? ⟨w.heap.size + 1, 0, none⟩ = some (.bool n3) := by rw [hW1]; simp [go_sem]
 have zy0 := cell_lt y0
 have y1 : w1.cell? ⟨w.heap.size + 1, 1, none⟩ = some (.slice a3 l3 c3) := by rw [hW1]; simp [go_sem]
 have y2 : w1.cell? ⟨w.heap.size + 1, 2, none⟩ = some (.bool n4) := by rw [hW1]; simp [go_sem]
 have y3 : w1.cell? ⟨w.heap.size + 1, 3, none⟩ = some (.slice a4 l4 c4) := by rw [hW1]; simp [go_sem]
 have hB : Below w.heap.size w w1 := by rw [hW1]; repeat (first|exact bzR _ _|exact hB|refine bzD ?_|refine bzN ?_|refine bzS ?_|refine bzA ?_)
 have hz := hB.size
 clear hW1
 have HB1 := hZ hB
 refine wp_region_grow (w := w1) (by kernel_rfl) (by kernel_rfl) ?_
 have x0g : ∀ gs, (grow w1 gs).cell? ⟨w.heap.size, 0, none⟩ = some (.bool n1) := fun gs => bkeep gs.below x0
 have x1g : ∀ gs, (grow w1 gs).cell? ⟨w.heap.size, 1, none⟩ = some (.slice a1 l1 c1) := fun gs => bkeep gs.below x1
 have x2g : ∀ gs, (grow w1 gs).cell? ⟨w.heap.size, 2, none⟩ = some (.bool n2) := fun gs => bkeep gs.below x2
 have x3g : ∀ gs, (grow w1 gs).cell? ⟨w.heap.size, 3, none⟩ = some (.slice a2 l2 c2) := fun gs => bkeep gs.below x3
 have y0g : ∀ gs, (grow w1 gs).cell? ⟨w.heap.size + 1, 0, none⟩ = some (.bool n3) := fun gs => bkeep gs.below y0
 have y1g : ∀ gs, (grow w1 gs).cell? ⟨w.heap.size + 1, 1, none⟩ = some (.slice a3 l3 c3) := fun gs => bkeep gs.below y1
 have y2g : ∀ gs, (grow w1 gs).cell? ⟨w.heap.size + 1, 2, none⟩ = some (.bool n4) := fun gs => bkeep gs.below y2
 have y3g : ∀ gs, (grow w1 gs).cell? ⟨w.heap.size + 1, 3, none⟩ = some (.slice a4 l4 c4) := fun gs => bkeep gs.below y3
 repeat (go_big_quiet_step ((first | (go_at_call 53; with_reducible exact grow_of (TP.out _ (bthen HB1.out (Grows.below _)))) | (go_at_call 81; with_reducible exact grow_of (TR.out _ (bthen HB1.out (Grows.below _)))) | fail)))
 refine wpQuiet_nil ?_
 intro w2 hb2
 clear x0g
 clear x1g
 clear x2g
 clear x3g
 clear y0g
 clear y1g
 clear y2g
 clear y3g
 have x0 : w2.cell? ⟨w.heap.size, 0, none⟩ = some (.bool n1) := bkc hb2
 have zx0 := cell_lt x0
 have x1 : w2.cell? ⟨w.heap.size, 1, none⟩ = some (.slice a1 l1 c1) := bkc hb2
 have x2 : w2.cell? ⟨w.heap.size, 2, none⟩ = some (.bool n2) := bkc hb2
 have x3 : w2.cell? ⟨w.heap.size, 3, none⟩ = some (.slice a2 l2 c2) := bkc hb2
 have y0 : w2.cell? ⟨w.heap.size + 1, 0, none⟩ = some (.bool n3) := bkc hb2
 have zy0 := cell_lt y0
 have y1 : w2.cell? ⟨w.heap.size + 1, 1, none⟩ = some (.slice a3 l3 c3) := bkc hb2
 have y2 : w2.cell? ⟨w.heap.size + 1, 2, none⟩ = some (.bool n4) := bkc hb2
 have y3 : w2.cell? ⟨w.heap.size + 1, 3, none⟩ = some (.slice a4 l4 c4) := bkc hb2
 have hB : Below w.heap.size w w2 := bthen bZ hb2
 have hz := hB.size
 go_wp2
 go_ret
 exact ⟨rfl, bZ⟩
theorem lineF_c (va vb : Value) (A : List Rat) (k : Nat) (w : World) (hx : FRow 0 w va A) (hy : FR w vb A) (bA : ∀ j, j < A.length → BdQ k (A.getD j 0)) (hk : k ≤ 1000000000) (hl : A.length ≤ 1099511627776) :
 Calls Tryz.prog 106 #[va, vb, .func (.func 107) #[] #[]] w fun e w' => e = .returned (.bool true) ∧ Below w.heap.size w w' := by
 have HX := hZ hx
 have HY := hZ hy
 have HA := hZ bA
 obtain ⟨a1, c1, rfl⟩ := FrRow.ex hx
 obtain ⟨a2, c2, rfl⟩ := FrRow.ex hy
 obtain ⟨n, hn⟩ : ∃ n, A.length = n := ⟨_, rfl⟩
 have HN := hZ hn
 rw [hn] at hl HX HY ⊢
 clear hx hy bA hn
 have hB := Below.refl w.heap.size w
 have hq : ((n : Int) != (n : Int)) = false := by simp
 go_enter Tryz.func106, Tryz.ntmps106
 go_wp2
 go_loopw [17] (fun x wr => ∃ j : Nat, j ≤ n ∧ x = .int .i64 j ∧ Below w.heap.size w wr) (fun x _ => n - (intOf x).toNat)
 case atStart => exact ⟨0, Nat.zero_le _, rfl, hB⟩
 case round =>
  obtain ⟨j, hj, rfl, hBr⟩ := hrel
  by_cases hlt : j < n
  · have hltI : (j : Int) < (n : Int) := by omega
    have hvx := HX.out.keep hBr
    have hvy := HY.out.keep hBr
    obtain ⟨b, off, rfl, -, g1, y1, s1, t1, g2, y2, s2, t2, q0, q1, q2, q3, qI⟩ := FrRow.at hvx hlt
    obtain ⟨b', off', rfl, -, g3, y3, s3, t3, g4, y4, s4, t4, r0, r1, r2, r3, rI⟩ := FrRow.at hvy hlt
    have zb := cell_lt q0
    have zr := cell_lt r0
    have WC := hZ (fun V (h : Below wr.heap.size wr V) => line1_c _ _ (A.getD j 0) k V (qI.keep h) (rI.keep h) (HA.out j (by rw [HN.out]; exact hlt)) hk)
    have hBw := Below.refl wr.heap.size wr
    clear hvx hvy qI rI
    go_wp2_with fail
    (with_reducible refine (WC.out _ ?_).mono ?_); (repeat (first|exact bzR _ _|exact hBw|refine bzD ?_|refine bzN ?_|refine bzS ?_|refine bzA ?_))
    rintro e w5 ⟨rfl, hb5⟩
    have hB5 := bthen hBr (bthen (show Below wr.heap.size wr _ by repeat (first|exact bzR _ _|exact hBw|refine bzD ?_|refine bzN ?_|refine bzS ?_|refine bzA ?_)) hb5)
    clear WC hb5
    go_wp2
    exact ⟨⟨j + 1, hlt, by go_num, hB5⟩, meas hlt (by go_num) rfl⟩
  · obtain rfl : j = n := by omega
    have hltI : ¬ (j : Int) < (j : Int) := by omega
    go_wp2
    go_ret
    exact ⟨rfl, bZ⟩
theorem line9_c (va vb : Value) (A : List Rat) (k : Nat) (w : World) (hx : FRow 0 w va A) (hy : FR w vb A) (bA : ∀ j, j < A.length → BdQ k (A.getD j 0)) (hk : k ≤ 1000000000) (hl : A.length ≤ 1099511627776) :
 Calls Tryz.prog 22 #[va, vb] w fun e w' => e = .returned (.bool true) ∧ Below w.heap.size w w' := by
 have LC := hZ (fun V (q : Below w.heap.size w V) => lineF_c va vb A k V (hx.keep q) (hy.keep q) bA hk hl)
 obtain ⟨a1, c1, rfl⟩ := FrRow.ex hx
 obtain ⟨a2, c2, rfl⟩ := FrRow.ex hy
 have hB := Below.refl w.heap.size w
 go_enter Tryz.func22, Tryz.ntmps22
 go_wp2_with fail
 (with_reducible refine (LC.out _ ?_).mono ?_); (repeat (first|exact bzR _ _|exact hB|refine bzD ?_|refine bzN ?_|refine bzS ?_|refine bzA ?_))
 rintro e w1 ⟨rfl, hb1⟩
 have hB1 : Below w.heap.size w w1 := bthen bZ hb1
 go_wp2
 go_ret
 exact ⟨rfl, bZ⟩
end
section
open Num
attribute [local go_sem ↓] Go.wp_at_zero Go.wp_at_succ
theorem one_row {w : World} {b : Nat} {q : Rat} (h : VarF b q w) : FRow 0 w (.slice (some ⟨b, 0, none⟩) 1 1) [q] := FrBlk.row (n := 1) (m := 0) h rfl (Nat.le_refl _) (fun j hj => by
 have : j = 0 := by omega
 subst this; rfl)
theorem apply_cQ (ins regs : Int) (ca oa : Option Addr) (cc oc : Nat) (code : List Ins) (outs : List Int) (vl : Value) (l : List Int) (w : World) (hc : InsV w ca cc code) (ho : IntsV w oa oc outs) (hl : PRow 0 w vl l) (hb : ∀ j, Bd 65000 (l.getD j 0)) (hll : l.length ≤ 1099511627775) :
 Calls Tryz.prog 32 #[.agg #[.int .i64 ins, .int .i64 regs, .slice ca code.length cc, .slice oa outs.length oc], vl] w (AppQPost ins regs code outs l w) := by
 have HC := hZ (And.intro hc ho)
 have HL := hZ hl
 have HBD := hZ hb
 have HCB := hZ (show ∀ b off, ca = some ⟨b, off, none⟩ → 0 < code.length → b < w.heap.size from fun b off e hl => by
  rcases hc with h0 | ⟨b', off', h1, _, h3⟩
  · rw [h0] at hl; simp at hl
  · rw [e] at h1; cases h1
    exact cell_lt (h3 0 hl).c0)
 obtain ⟨la, lc, rfl, -⟩ := hl
 clear hc ho hb
 have hB := Below.refl w.heap.size w
 by_cases hp : ProgOk ins regs code outs
 · have CP := hZ (fun V (h : Below w.heap.size w V) => check_yes (HC.out.1.keep h) (HC.out.2.keep h) hp)
   by_cases hn : (l.length : Int) = ins
   · obtain ⟨R, rfl⟩ : ∃ R : Nat, regs = R := ⟨regs.toNat, by have := hp.i1; have := hp.i2; omega⟩
     have HP := hZ hp
     have HNI := hZ hn
     have hR128 : R ≤ 128 := by have := hp.r1; omega
     have hlR : l.length ≤ R := by have := hp.i2; omega
     have hR1 : 0 < R := by have := hp.i1; have := hp.i2; omega
     have hdn : ((l.length : Int) != ins) = false := by simpa using hn
     have hcl := hp.c1
     have hol := hp.o2
     have HEQ := hZ (show endA l (R : Int) code = afterF code (inF l R) code.length from by unfold endA; rw [Int.toNat_natCast])
     have HIN := hZ (fun k (hk : k < code.length) => (show InsOk (code.getD k default) (inF l R).length from by rw [inF_len]; have := ins_ofF hp hk; rwa [Int.toNat_natCast] at this))
     have HOS := hZ (show ∀ k, k < outs.length → 0 ≤ outs.getD k 0 ∧ outs.getD k 0 < (R : Int) from fun k hk => hp.os k hk)
     have HUL := hZ (inF_len l R)
     have HUR := hZ (And.intro (inF_rect l R) (inF_slim R HBD.out))
     have HGK := hZ (fun k (h : k < R) => inF_get (l := l) h)
     have hmk := mkRegsF R (by omega)
     have HNEW := hZ (fun W => regsF_new W (inF l R) (inF_len l R).symm)
     obtain ⟨G, hG⟩ : ∃ G, inF l R = G := ⟨_, rfl⟩
     rw [hG] at HEQ HIN HUL HUR HGK HNEW
     clear hp hn hG
     go_enter Tryz.func32, Tryz.ntmps32
     go_wp2_with fail
     (with_reducible refine (CP.out _ ?_).mono ?_); (repeat (first|exact bzR _ _|exact hB|refine bzD ?_|refine bzN ?_|refine bzS ?_|refine bzA ?_))
     rintro e w1 ⟨⟨r1, rfl⟩, hb1⟩
     have p0 : w1.cell? ⟨w.heap.size, 0, none⟩ = some (.int .i64 ins) := bkc hb1
     have zp0 := cell_lt p0
     have p1 : w1.cell? ⟨w.heap.size, 1, none⟩ = some (.int .i64 (R : Int)) := bkc hb1
     have p2 : w1.cell? ⟨w.heap.size, 2, none⟩ = some (.slice ca code.length cc) := bkc hb1
     have p3 : w1.cell? ⟨w.heap.size, 3, none⟩ = some (.slice oa outs.length oc) := bkc hb1
     have hB : Below w.heap.size w w1 := bthen bZ hb1
     have hz := hB.size
     have HS := hZ (show ∀ V, Below w1.heap.size w1 V → V.cell? ⟨w.heap.size, 0, none⟩ = some (.int .i64 ins) ∧ V.cell? ⟨w.heap.size, 1, none⟩ = some (.int .i64 (R : Int)) ∧ V.cell? ⟨w.heap.size, 2, none⟩ = some (.slice ca code.length cc) ∧ V.cell? ⟨w.heap.size, 3, none⟩ = some (.slice oa outs.length oc) from fun V q => ⟨bkeep q p0, bkeep q p1, bkeep q p2, bkeep q p3⟩)
     have HB1 := hZ hB
     have hBw := Below.refl w1.heap.size w1
     clear CP hb1
     go_upto_region 7 with (fail)
     refine wp_name fun w2 hW2 => ?_
     have h12 : Below w1.heap.size w1 w2 := by rw [hW2]; repeat (first|exact bzR _ _|exact hBw|refine bzD ?_|refine bzN ?_|refine bzS ?_|refine bzA ?_)
     have HR2 := hZ (show RegsF (fun _ => False) w2 w1.heap.size (upF G 0) from by rw [hW2]; exact HNEW.out w1)
     obtain ⟨rb, hrb⟩ : ∃ rb, w1.heap.size = rb := ⟨_, rfl⟩
     have hrw : w.heap.size < rb := by rw [← hrb]; exact cell_lt p0
     have HRB := hZ hrb
     rw [hrb] at HR2 ⊢
     clear hW2 hmk hrb p0 p1 p2 p3 HNEW hBw
     go_wp2
     go_loopw [32] (fun x wr => ∃ k : Nat, k ≤ R ∧ x = .int .i64 k ∧ Below w1.heap.size w1 wr ∧ Hid (RegsF (fun _ => False) wr rb (upF G k))) (fun x _ => R - (intOf x).toNat)
     case atStart => exact ⟨0, Nat.zero_le _, rfl, h12, HR2⟩
     case round =>
      obtain ⟨k, hk, rfl, hBr, hRQ⟩ := hrel
      by_cases hlt : k < R
      · have hltI : (k : Int) < (R : Int) := by omega
        have hkl : k < (upF G k).length := by rw [upF_len (by rw [HUL.out]; omega), HUL.out]; exact hlt
        obtain ⟨uo, o0, -⟩ := hRQ.out.cell k hkl
        have of0 := hRQ.out.free.2 k
        have zo := cell_lt o0
        have hmk1 : ∀ w, (Instr.makeSlice 38 (.int .i64 1) (.int .i64 1)).run Tryz.prog w = .ok (.slice (some ⟨w.heap.size, 0, none⟩) 1 1) (w.alloc (.cells (zcelQ 1) 79)) := mkRats 1 (by omega)
        have hrr := Below.refl wr.heap.size wr
        go_upto_region 11 with (fail)
        refine wp_name fun w5 hW5 => ?_
        obtain ⟨xb, hxb⟩ : ∃ xb, wr.heap.size = xb := ⟨_, rfl⟩
        have hrx : rb < xb := by rw [← hxb]; exact hRQ.out.free.1
        rw [hxb] at hW5 ⊢
        have hkp5 : Kp (· ≠ 38) wr (wr.setCell ⟨rb, k, none⟩ (.slice (some ⟨xb, 0, none⟩) 1 1)) := (Kp.refl _ _).set (fun t ht => by rw [hRQ.out.ty] at ht; cases ht; exact fun k => k rfl) _
        have hO5 : Out (fun q => q = rb) wr w5 := by rw [hW5]; exact (Out.set (Out.refl (fun q => q = rb) wr) (p := ⟨rb, k, none⟩) (fun _ => rfl) _).alloc _
        have c0 : w5.cell? ⟨rb, k, none⟩ = some (.slice (some ⟨xb, 0, none⟩) 1 1) := by rw [hW5]; exact cell_alloc (cell_here o0 _) _
        have HX5 := hZ (show VarF xb 0 w5 from by rw [hW5]; exact zcelQ_blk (wr.setCell ⟨rb, k, none⟩ (.slice (some ⟨xb, 0, none⟩) 1 1)) 1 (by simp [hxb]))
        have hcj : ∀ j, j ≠ k → w5.cell? ⟨rb, j, none⟩ = wr.cell? ⟨rb, j, none⟩ := fun j hj => by
         rw [hW5, World.cell?_of_block (w := wr.setCell ⟨rb, k, none⟩ (.slice (some ⟨xb, 0, none⟩) 1 1)) (Below.heap_alloc _ _ _ (by simpa using hRQ.out.free.1))]
         exact World.cell?_setCell_other _ _ _ _ (show (⟨rb, k, none⟩ : Addr) ≠ ⟨rb, j, none⟩ from fun e => hj (congrArg Addr.off e).symm)
        have hf5 : Free w5 rb := by rw [hW5]; exact (hRQ.out.free.set _ _).keep (bal (Below.refl _ _) _)
        have ht5 : typOf w5 rb = some 38 := by rw [hW5]; exact typ_keep (by rw [typ_set]; exact hRQ.out.ty) (bal (Below.refl _ _) _)
        have hl5 : Lim wr w5 := by rw [hW5]; exact (Kp.lim hkp5 (by decide)).trans (Lim.of_below (bal (Below.refl _ _) _))
        have zc := cell_lt c0
        have hB5 : Below w1.heap.size w1 w5 := hBr.trans (hO5.to_below (fun q hq _ e => by have := HRB.out; omega) hBr.size)
        have HG := hZ (HGK.out k hlt)
        by_cases hkg : k < l.length
        · have hkgI : (k : Int) < (l.length : Int) := by omega
          rw [if_pos hkg] at HG
          obtain ⟨la2, lc2, e2, -, -, h4⟩ := HL.out
          obtain ⟨rfl, -, rfl⟩ := Value.slice.inj e2
          rcases h4 with h4 | ⟨ib, io, rfl, -, -, hI⟩
          · rw [h4] at hkg; simp at hkg
          obtain ⟨nb, ad, ln, cp, i0, i1, iI⟩ := hI k hkg
          have zib := cell_lt i0
          have hBw5 : Below w.heap.size w w5 := bthen HB1.out hB5
          have i0 := bkeep hBw5 i0
          have i1 := bkeep hBw5 i1
          have zi := cell_lt i0
          have HII := hZ (iI.keep hBw5)
          have HZ := hZ (show ∀ z, l.getD k 0 = z → G.getD k [] = [((z : Int) : Rat)] from fun z e => by rw [HG.out, e])
          obtain ⟨z, hz⟩ : ∃ z, l.getD k 0 = z := ⟨_, rfl⟩
          have HZ1 := hZ (HZ.out z hz)
          have HI5 := hZ (show IsInt w5 (.agg #[.bool nb, .slice ad ln cp]) z from by rw [← hz]; exact HII.out)
          have WC := hZ (fun V (q : Below w5.heap.size w5 V) => pqWhole_c (.agg #[.bool nb, .slice ad ln cp]) z V (HI5.out.keep q))
          have h55 := Below.refl w5.heap.size w5
          have HH5 := hZ (And.intro hO5 (And.intro hl5 (And.intro hf5 (And.intro ht5 hcj))))
          have zx5 := HX5.out.fr.1
          clear hW5 iI hI e2 hz HII HZ HG hO5 hl5 hf5 ht5 hcj hkp5 hmk1 o0 of0 zo
          go_wp2
          go_region_law (go_simp; go_wp2_with (first | (go_at_call 39; (with_reducible refine (WC.out _ ?_).mono ?_); (repeat (first|exact bzR _ _|exact h55|refine bzD ?_|refine bzN ?_|refine bzS ?_|refine bzA ?_)); rintro e w6 ⟨⟨u6, rfl, hu6⟩, hb6⟩; have h56 : Below w5.heap.size w5 w6 := bthen bZ hb6; have HX6 := hZ (HX5.out.keep h56); have HU6 := hZ hu6; obtain ⟨m1, b1, k1, d1, m2, b2, k2, d2, rfl, -, -⟩ := hu6; obtain ⟨_, _, _, _, _, _, _, _, x0, x1, x2, x3, -, f0, f1, f2, f3⟩ := HX6.out.view; have c06 := bkeep h56 c0; have i06 := bkeep h56 i0; have i16 := bkeep h56 i1; have zc6 := cell_lt c06; have zi6 := cell_lt i06; have zx6 := cell_lt x0)))
          all_goals
           have hxx : ∀ {P : Prop}, xb < wr.heap.size → P := fun h => absurd h (by omega)
           have hxr : xb ≠ rb := by omega
           have HYP := hZ (HX6.out.put HU6.out)
           have hlS := (HX6.out.at_ 0 (by omega)).limS (.bool m1) (.slice b1 k1 d1) (.bool m2) (.slice b2 k2 d2)
           simp only [Nat.zero_mul, Nat.zero_add] at hlS
           have hO6 := HH5.out.1.below h56
           have HRN := hZ (hRQ.out.made HUL.out hlt ((((hO6.set (p := ⟨xb, 0, none⟩) hxx (.bool m1)).set (p := ⟨xb, 1, none⟩) hxx (.slice b1 k1 d1)).set (p := ⟨xb, 2, none⟩) hxx (.bool m2)).set (p := ⟨xb, 3, none⟩) hxx (.slice b2 k2 d2))
            ((HH5.out.2.1.trans (Lim.of_below h56)).trans hlS) (((((HH5.out.2.2.1.keep h56).set _ _).set _ _).set _ _).set _ _) (by rw [typ_set, typ_set, typ_set, typ_set]; exact typ_keep HH5.out.2.2.2.1 h56)
            (fun j hj => by
             rw [World.cell?_setCell_other (h := addr_ne hxr), World.cell?_setCell_other (h := addr_ne hxr), World.cell?_setCell_other (h := addr_ne hxr), World.cell?_setCell_other (h := addr_ne hxr), World.cell?_of_block (w := w5) (h56.block rb HH5.out.2.2.1.1)]
             exact HH5.out.2.2.2.2 j hj)
            (cell_far (cell_far (cell_far (cell_far c06 (addr_ne hxr) _) (addr_ne hxr) _) (addr_ne hxr) _) (addr_ne hxr) _) (by rw [HZ1.out]; exact one_row HYP.out))
           have hB7 := bset (bset (bset (bset ((hB5.mono (Nat.le_refl _)).trans (h56.mono hB5.size)) (p := ⟨xb, 0, none⟩) (by have := hBr.size; show w1.heap.size ≤ xb; omega) (.bool m1)) (p := ⟨xb, 1, none⟩) (by have := hBr.size; show w1.heap.size ≤ xb; omega) (.slice b1 k1 d1)) (p := ⟨xb, 2, none⟩) (by have := hBr.size; show w1.heap.size ≤ xb; omega) (.bool m2)) (p := ⟨xb, 3, none⟩) (by have := hBr.size; show w1.heap.size ≤ xb; omega) (.slice b2 k2 d2)
           clear hlS hO6 WC HX6 HU6 HYP HH5
           go_wp2
           exact ⟨⟨k + 1, hlt, by go_num, hB7, HRN⟩, meas hlt (by go_num) rfl⟩
        · have hkgI : ¬ (k : Int) < (l.length : Int) := by omega
          have HRN := hZ (hRQ.out.made HUL.out hlt hO5 hl5 hf5 ht5 hcj c0 (by
           rw [HG.out, if_neg hkg]
           exact one_row HX5.out))
          clear hW5
          go_wp2
          exact ⟨⟨k + 1, hlt, by go_num, hB5, HRN⟩, meas hlt (by go_num) rfl⟩
      · obtain rfl : R = k := by omega
        have hltI : ¬ (R : Int) < (R : Int) := by omega
        have HRA := hZ (show RegsF (fun _ => False) wr rb G from by
         have := hRQ.out
         rw [← HUL.out, upF_all] at this
         exact this)
        have hBwr := bthen HB1.out hBr
        obtain ⟨p0, p1, p2, p3⟩ := HS.out wr hBr
        have zp := cell_lt p0
        have hzr : rb < wr.heap.size := HRA.out.free.1
        have RC := hZ (fun V (q : Below wr.heap.size wr V) => (runA_c rb ins (R : Int) ca oa cc outs.length oc code G 1 rb R V (HC.out.1.keep (bthen hBwr q)) HIN.out (by omega) (by rw [HUL.out]; exact hR128) (HRA.out.keep q) HUR.out.1 (by omega) HUR.out.2 (fun b off e hl => by have := HCB.out b off e hl; omega) (Nat.le_refl _)).mono
         (R' := fun e w' => ((∃ h, afterF code G code.length = some h ∧ e = .returned (.tuple #[.slice (some ⟨rb, 0, none⟩) G.length R, .bool true]) ∧ RegsF (fun _ => False) w' rb h) ∨ (afterF code G code.length = none ∧ e = .returned (.tuple #[.slice none 0 0, .bool false]))) ∧ Below rb wr w') fun e w' ⟨h1, h2⟩ => ⟨h1, (q.mono (by omega)).trans h2⟩)
        rw [HUL.out] at RC
        have hBw := Below.refl wr.heap.size wr
        clear hRQ
        cases hend : afterF code G code.length with
        | none =>
         have HEN := hZ hend
         have HR := hZ (show AppNo ins R code outs l 3 from .inr (.inr ⟨HP.out, HNI.out, by rw [HEQ.out]; exact hend, rfl⟩))
         clear hend
         go_wp2_with fail
         (with_reducible refine (RC.out _ ?_).mono ?_); (repeat (first|exact bzR _ _|exact hBw|refine bzD ?_|refine bzN ?_|refine bzS ?_|refine bzA ?_))
         rintro e w7 ⟨(⟨h, h1, -⟩ | ⟨-, rfl⟩), hb7⟩
         · rw [HEN.out] at h1; cases h1
         have hB7 : Below w.heap.size w w7 := hBwr.trans (hb7.mono (by omega))
         clear RC hb7
         go_wp2
         refine bodyPost_ret (v := .tuple #[.slice none 0 0, .int .i64 3]) (by simp [results, Tryz.results32, go_sem]) rfl (AppQPost.no HR.out ?_)
         repeat exact bZ
        | some h =>
         have HEN := hZ hend
         have hhl : h.length = R := (afterF_len hend).trans HUL.out
         have hhr : RectF 1 h := (afterF_ok HUR.out.1 HUR.out.2 (fun k hk => ⟨(HIN.out k hk).a0, (HIN.out k hk).a1⟩) (Nat.le_refl _) hend).1
         have HHL := hZ (And.intro hhl hhr)
         clear hend hhl hhr
         go_wp2_with fail
         (with_reducible refine (RC.out _ ?_).mono ?_); (repeat (first|exact bzR _ _|exact hBw|refine bzD ?_|refine bzN ?_|refine bzS ?_|refine bzA ?_))
         rintro e w7 ⟨(⟨h', h1, rfl, hr7⟩ | ⟨h1, -⟩), hb7⟩
         rotate_left
         · rw [HEN.out] at h1; cases h1
         rw [HEN.out] at h1
         cases h1
         have hB7 : Below w.heap.size w w7 := hBwr.trans (hb7.mono (by omega))
         obtain ⟨p0, p1, p2, p3⟩ := HS.out w7 (hBr.trans (by rw [HRB.out]; exact hb7))
         have zp := cell_lt p0
         have HR7 := hZ hr7
         have OC := hZ (fun V (q : Below w7.heap.size w7 V) => outsQ_c ins (R : Int) ca oa code.length cc oc outs rb R 1 h V (HC.out.2.keep (bthen hB7 q)) (fun k hk => by rw [HHL.out.1]; exact HOS.out k hk) ⟨_, HR7.out.keep q⟩ HHL.out.2 (Nat.le_refl _) (by omega) hol)
         rw [HHL.out.1] at OC
         have hBx := Below.refl w7.heap.size w7
         clear RC hb7 hr7 hBw
         go_wp2_with fail
         (with_reducible refine (OC.out _ ?_).mono ?_); (repeat (first|exact bzR _ _|exact hBx|refine bzD ?_|refine bzN ?_|refine bzS ?_|refine bzA ?_))
         rintro e w8 ⟨⟨v8, rfl, hv8⟩, hb8⟩
         have h78 : Below w7.heap.size w7 w8 := bthen bZ hb8
         have HFL := hZ (outsF_len outs h)
         have HFR := hZ (show RectF 1 (outsF outs h) from fun i hi => by
          rw [outsF_len] at hi
          rw [outsF_get hi]
          obtain ⟨q1, q2⟩ := HOS.out i hi
          exact HHL.out.2 _ (by rw [HHL.out.1]; omega))
         have HV8 := hZ ((ownP_isL0 hv8).psqs HFR.out (by omega))
         have HFT := hZ (fun i (hi : i < (outsF outs h).length) => flatq_take hi)
         have HFE := hZ (flatq_le (outsF outs h))
         have HFN := hZ (flatF_len HFR.out)
         obtain ⟨a8, c8, rfl⟩ := hv8.ex
         have HY := hZ (fun w' v hv hb => AppQPost.yes (w := w) (w' := w') (v := v) HP.out HNI.out (h := h) (by rw [HEQ.out]; exact HEN.out) hv hb)
         obtain ⟨F, hF⟩ : ∃ F, outsF outs h = F := ⟨_, rfl⟩
         rw [hF] at HFL HFR HV8 HFT HFE HFN HY ⊢
         rw [HFL.out] at HV8 HFN ⊢
         have hB8 := bthen hB7 h78
         have h88 := Below.refl w8.heap.size w8
         clear OC hb8 h78 hv8 hF hBx
         go_wp2
         go_loopw [11, 66] (fun v x wq => ∃ i : Nat, i ≤ outs.length ∧ x = .int .i64 i ∧ Hid (FrOwn IsQP 79 w8 wq v (F.take i).flatten)) (fun _ x _ => outs.length - (intOf x).toNat)
         case atStart => exact ⟨0, Nat.zero_le _, rfl, hZ (FrOwn.nil _ _ h88)⟩
         case round =>
          rename World => wq
          obtain ⟨i, hi, rfl, hO⟩ := hrel
          have hbq := hO.out.bel
          by_cases hlt2 : i < outs.length
          · have hltJ : (i : Int) < (outs.length : Int) := by omega
            have hiF : i < F.length := by rw [HFL.out]; exact hlt2
            obtain ⟨c', gb, go, ub, uo, uc, e2, hu, hI⟩ := (HV8.out.keep prs_psq hbq).psq hiF
            obtain ⟨rfl, -, rfl⟩ := Value.slice.inj e2
            have HSX := hZ (HFT.out i hiF)
            have hS1 := HFE.out (i + 1)
            rw [HSX.out, List.length_append, HFN.out, Nat.mul_one] at hS1
            obtain ⟨L, hL⟩ : ∃ L, (F.take i).flatten = L := ⟨_, rfl⟩
            obtain ⟨r, hr⟩ : ∃ r, F.getD i [] = r := ⟨_, rfl⟩
            rw [hL] at hO HSX hS1
            rw [hr] at HSX hS1 hu hI
            have HI := hZ hI
            have zu := cell_lt hu
            obtain ⟨xa, xc, hov⟩ := hO.out.ex
            subst hov
            clear hL hr e2 hI
            go_wp2_with (at_builtin; refine app_catQ (by rfl) (by rfl) hO.out HI.out (by rfl) (by rfl) (by omega) ?_)
            intro v' w9 HO9
            rw [← HSX.out] at HO9
            go_wp2
            exact ⟨⟨i + 1, by omega, by go_num, HO9⟩, by simp [intOf]; omega⟩
          · obtain rfl : i = outs.length := by omega
            rw [show F.take outs.length = F from by rw [← HFL.out]; exact List.take_length] at hO
            have HRW := hZ (show FRow 0 wq _ F.flatten from FrRow.rebase hO.out.row (Nat.zero_le _))
            have hBq := bthen hB8 hbq
            have hltJ : ¬ (outs.length : Int) < (outs.length : Int) := by omega
            obtain ⟨xa, xc, hov⟩ := hO.out.ex
            subst hov
            obtain ⟨N, hN⟩ : ∃ N, F.flatten.length = N := ⟨_, rfl⟩
            rw [hN] at HRW ⊢
            clear hO hN
            go_wp2
            refine bodyPost_ret (v := .tuple #[.slice xa N xc, .int .i64 0]) (by simp [results, Tryz.results32, go_sem]) rfl (HY.out _ _ HRW.out hBq)
   · have HR := hZ (show AppNo ins regs code outs l 5 from .inr (.inl ⟨hp, hn, rfl⟩))
     have hdn : ((l.length : Int) != ins) = true := by simpa using hn
     clear hp hn
     go_enter Tryz.func32, Tryz.ntmps32
     go_wp2_with fail
     (with_reducible refine (CP.out _ ?_).mono ?_); (repeat (first|exact bzR _ _|exact hB|refine bzD ?_|refine bzN ?_|refine bzS ?_|refine bzA ?_))
     rintro e w1 ⟨⟨r1, rfl⟩, hb1⟩
     have p0 : w1.cell? ⟨w.heap.size, 0, none⟩ = some (.int .i64 ins) := bkc hb1
     have zp0 := cell_lt p0
     have p1 : w1.cell? ⟨w.heap.size, 1, none⟩ = some (.int .i64 regs) := bkc hb1
     have p2 : w1.cell? ⟨w.heap.size, 2, none⟩ = some (.slice ca code.length cc) := bkc hb1
     have p3 : w1.cell? ⟨w.heap.size, 3, none⟩ = some (.slice oa outs.length oc) := bkc hb1
     have hB : Below w.heap.size w w1 := bthen bZ hb1
     have hz := hB.size
     clear CP hb1
     go_wp2
     refine bodyPost_ret (v := .tuple #[.slice none 0 0, .int .i64 5]) (by simp [results, Tryz.results32, go_sem]) rfl (AppQPost.no HR.out ?_)
     repeat exact bZ
 · have CP := hZ (fun V (h : Below w.heap.size w V) => check_no (HC.out.1.keep h) (HC.out.2.keep h) hp)
   have HR := hZ (show AppNo ins regs code outs l 80 from .inl ⟨hp, rfl⟩)
   clear hp
   go_enter Tryz.func32, Tryz.ntmps32
   go_wp2_with fail
   (with_reducible refine (CP.out _ ?_).mono ?_); (repeat (first|exact bzR _ _|exact hB|refine bzD ?_|refine bzN ?_|refine bzS ?_|refine bzA ?_))
   rintro e w1 ⟨⟨r1, rfl⟩, hb1⟩
   have p0 : w1.cell? ⟨w.heap.size, 0, none⟩ = some (.int .i64 ins) := bkc hb1
   have zp0 := cell_lt p0
   have p1 : w1.cell? ⟨w.heap.size, 1, none⟩ = some (.int .i64 regs) := bkc hb1
   have p2 : w1.cell? ⟨w.heap.size, 2, none⟩ = some (.slice ca code.length cc) := bkc hb1
   have p3 : w1.cell? ⟨w.heap.size, 3, none⟩ = some (.slice oa outs.length oc) := bkc hb1
   have hB : Below w.heap.size w w1 := bthen bZ hb1
   have hz := hB.size
   clear CP hb1
   go_wp2
   refine bodyPost_ret (v := .tuple #[.slice none 0 0, .int .i64 80]) (by simp [results, Tryz.results32, go_sem]) rfl (AppQPost.no HR.out ?_)
   repeat exact bZ
end
section
open Num
attribute [local go_sem ↓] Go.wp_at_zero Go.wp_at_succ
theorem snocR_fn (l : List Int) (j : Nat) (hj : j < l.length) : ∀ i, i < j + 1 → (if i = j then l.getD j 0 else l.getD i 0) = l.getD i 0 := fun i hi => by
 by_cases e : i = j
 · subst e; rw [if_pos rfl]
 · rw [if_neg e]
theorem app_det {ins regs : Int} {code : List Ins} {outs l : List Int} {w w' : World} {v v' : Value} {q q' : Int} (hb : ∀ k, Bd 65000 (l.getD k 0)) (h : AppRes ins regs code outs l w v q) (h' : AppRR ins regs code outs l w' v' q') : q = q' ∧ ∃ A, FRow 0 w v A ∧ FR w' v' A ∧ (∀ j, j < A.length → BdQ 65536 (A.getD j 0)) ∧ A.length ≤ 128 := by
 rcases h with ⟨h, rfl⟩ | ⟨hp, hn, rfl, g, e, hv⟩
 · rcases h' with ⟨h', rfl⟩ | ⟨hp', hn', rfl, g', e', hv'⟩
   · refine ⟨?_, [], FrRow.nil _ _ _ _, FrRow.nil _ _ _ _, fun j hj => absurd hj (by simp), by simp⟩
     rcases h with ⟨a1, rfl⟩ | ⟨a1, a2, rfl⟩ | ⟨a1, a2, a3, rfl⟩ <;> rcases h' with ⟨b1, rfl⟩ | ⟨b1, b2, rfl⟩ | ⟨b1, b2, b3, rfl⟩ <;> first | rfl | exact absurd b1 a1 | exact absurd a1 b1 | exact absurd b2 a2 | exact absurd a2 b2
   · rcases h with ⟨a1, rfl⟩ | ⟨a1, a2, rfl⟩ | ⟨a1, a2, a3, rfl⟩
     · exact absurd hp' a1
     · exact absurd hn' a2
     · rw [e'] at a3; cases a3
 · rcases h' with ⟨h', rfl⟩ | ⟨hp', hn', rfl, g', e', hv'⟩
   · rcases h' with ⟨a1, rfl⟩ | ⟨a1, a2, rfl⟩ | ⟨a1, a2, a3, rfl⟩
     · exact absurd hp a1
     · exact absurd hn a2
     · rw [e] at a3; cases a3
   · rw [e] at e'
     cases e'
     have hk := endA_ok hp hb e
     have hl : (outsF outs g).flatten.length = outs.length := by rw [flatF_len hk.1, outsF_len, Nat.mul_one]
     exact ⟨rfl, _, hv, hv', fun j hj => slim_flat hk.1 hk.2 (by rw [outsF_len]; rw [hl] at hj; exact hj), by rw [hl]; exact hp.o2⟩
theorem denoteApplies_h (ins regs : Int) (ca oa : Option Addr) (cc oc : Nat) (code : List Ins) (outs : List Int) (vl : Value) (l : List Int) (w : World) (hc : InsV w ca cc code) (ho : IntsV w oa oc outs) (hl : RowI w vl l) :
 Calls Tryz.prog 4 #[.agg #[.int .i64 ins, .int .i64 regs, .slice ca code.length cc, .slice oa outs.length oc], vl] w fun e w' => e = .returned (.bool true) ∧ Below w.heap.size w w' := by
 have HC := hZ (And.intro hc ho)
 have HL := hZ hl
 have LP := hZ (fun V => long9_c ins regs ca oa code.length cc outs.length oc V)
 have HBD := hZ (show ∀ j, Bd 65000 (l.getD j 0) from fun j => by
  obtain ⟨a, c, -, h⟩ := hl
  by_cases hj : j < l.length
  · obtain ⟨b, off, -, -, h5⟩ := h j hj
    exact (show Bd 64 (l.getD j 0) from by unfold I64 at h5; unfold Bd; omega).mono (by omega)
  · rw [List.getD_eq_getElem?_getD, List.getElem?_eq_none (by omega)]; exact bd_zero)
 obtain ⟨la, lc, rfl, hlv⟩ := hl
 have HLV := hZ hlv
 obtain ⟨n, hn⟩ : ∃ n, l.length = n := ⟨_, rfl⟩
 have HN := hZ hn
 rw [hn] at HLV HL ⊢
 have hB := Below.refl w.heap.size w
 clear hc ho hlv hn
 go_enter Tryz.func4, Tryz.ntmps4
 go_wp2_with fail
 refine (works9_c _).mono ?_
 rintro e w1 ⟨rfl, hb1⟩
 have p0 : w1.cell? ⟨w.heap.size, 0, none⟩ = some (.int .i64 ins) := bkc hb1
 have zp0 := cell_lt p0
 have p1 : w1.cell? ⟨w.heap.size, 1, none⟩ = some (.int .i64 regs) := bkc hb1
 have p2 : w1.cell? ⟨w.heap.size, 2, none⟩ = some (.slice ca code.length cc) := bkc hb1
 have p3 : w1.cell? ⟨w.heap.size, 3, none⟩ = some (.slice oa outs.length oc) := bkc hb1
 have hB : Below w.heap.size w w1 := bthen bZ hb1
 have hz := hB.size
 clear hb1
 go_wp2_with fail
 (with_reducible refine (LP.out _).mono ?_)
 rintro e w2 ⟨⟨b2, rfl⟩, hb2⟩
 have p0 : w2.cell? ⟨w.heap.size, 0, none⟩ = some (.int .i64 ins) := bkc hb2
 have zp0 := cell_lt p0
 have p1 : w2.cell? ⟨w.heap.size, 1, none⟩ = some (.int .i64 regs) := bkc hb2
 have p2 : w2.cell? ⟨w.heap.size, 2, none⟩ = some (.slice ca code.length cc) := bkc hb2
 have p3 : w2.cell? ⟨w.heap.size, 3, none⟩ = some (.slice oa outs.length oc) := bkc hb2
 have hB : Below w.heap.size w w2 := bthen bZ hb2
 have hz := hB.size
 clear LP hb2
 cases b2 with
 | true =>
  go_wp2
  go_ret
  exact ⟨rfl, bZ⟩
 | false =>
 by_cases h200 : (200 : Int) < (n : Int)
 · go_wp2
   go_ret
   exact ⟨rfl, bZ⟩
 have hn200 : n ≤ 200 := by omega
 have HB2 := hZ hB
 have h22 := Below.refl w2.heap.size w2
 have HP := hZ (show ∀ W, Below w2.heap.size w2 W → W.cell? ⟨w.heap.size, 0, none⟩ = some (.int .i64 ins) ∧ W.cell? ⟨w.heap.size, 1, none⟩ = some (.int .i64 regs) ∧ W.cell? ⟨w.heap.size, 2, none⟩ = some (.slice ca code.length cc) ∧ W.cell? ⟨w.heap.size, 3, none⟩ = some (.slice oa outs.length oc) from fun W q => ⟨bkeep q p0, bkeep q p1, bkeep q p2, bkeep q p3⟩)
 go_wp2
 go_loopw [5, 23] (fun v x wr => ∃ j : Nat, j ≤ n ∧ x = .int .i64 j ∧ Hid (OwnF IsRef 56 w2 wr v j (fun i => l.getD i 0))) (fun _ x _ => n - (intOf x).toNat)
 case atStart => exact ⟨0, Nat.zero_le _, rfl, hZ (OwnF.nil _ _ _ h22)⟩
 case round =>
  obtain ⟨j, hj, rfl, hF⟩ := hrel
  have hBr := hF.out.bel
  obtain ⟨fa, fc, hfv⟩ : ∃ a c, _ = Value.slice a j c := by obtain ⟨a, c, h, _⟩ := hF.out.view; exact ⟨a, c, h⟩
  subst hfv
  by_cases hlt : j < n
  · have hltJ : (j : Int) < (n : Int) := by omega
    obtain ⟨rb, ro, rfl, hc, hI⟩ := HLV.out j hlt
    have hc2 := bkeep (bthen HB2.out hBr) hc
    have oc' := hZ (fun W => rof_c (l.getD j 0) W hI.1 hI.2)
    have HSN := hZ (snocR_fn l j (by rw [HN.out]; exact hlt))
    obtain ⟨z, hz⟩ : ∃ z, l.getD j 0 = z := ⟨_, rfl⟩
    rw [hz] at hc2 oc' HSN
    have zc := cell_lt hc2
    have hrr := Below.refl wr.heap.size wr
    clear hc hI hz
    go_wp2_with fail
    (with_reducible refine (oc'.out _).mono ?_)
    rintro e w5 ⟨⟨v5, rfl, hi5⟩, hb5⟩
    have hb5' : Below wr.heap.size wr w5 := bthen bZ hb5
    have HF5 := hZ (hF.out.below lims_ref hb5')
    have HI5 := hZ hi5
    obtain ⟨n5, a5, c5, l5, rfl, -⟩ := hi5
    unfold iv at *
    clear oc' hb5
    go_wp2_with (at_builtin; refine app_num elRef (by decide) lims_ref (by rfl) (by rfl) HF5.out HI5.out (by rfl) (by rfl) (by omega) ?_)
    intro v' w6 hF6 _ _
    have HF6 := hZ (hF6.congr' HSN.out)
    clear hF6
    go_wp2
    exact ⟨⟨j + 1, hlt, by go_num, HF6⟩, meas hlt (by go_num) rfl⟩
  · obtain rfl : j = n := by omega
    have hltJ : ¬ (j : Int) < (j : Int) := by omega
    have HRR := hZ (show RRow 0 wr (.slice fa j fc) l from (OwnF.row (w0 := w2) (l := l) (by rw [HN.out]; exact hF.out)).rebase (Nat.zero_le _))
    obtain ⟨p0, p1, p2, p3⟩ := HP.out wr hBr
    have hB0r := bthen HB2.out hBr
    have zp := cell_lt p0
    have HS := hZ (show ∀ W, Below wr.heap.size wr W → W.cell? ⟨w.heap.size, 0, none⟩ = some (.int .i64 ins) ∧ W.cell? ⟨w.heap.size, 1, none⟩ = some (.int .i64 regs) ∧ W.cell? ⟨w.heap.size, 2, none⟩ = some (.slice ca code.length cc) ∧ W.cell? ⟨w.heap.size, 3, none⟩ = some (.slice oa outs.length oc) from fun W q => ⟨bkeep q p0, bkeep q p1, bkeep q p2, bkeep q p3⟩)
    have LA := hZ (fun V (q : Below wr.heap.size wr V) => list9_c (.slice la j lc) l V (HL.out.keep (bthen hB0r q)) (by rw [HN.out]; omega))
    have AC := hZ (fun vx V (b : Nat) (hx : RowO IsInt 50 b V vx l) (q : Below wr.heap.size wr V) => apply_cQ ins regs ca oa cc oc code outs vx l V (HC.out.1.keep (bthen hB0r q)) (HC.out.2.keep (bthen hB0r q)) (hx.row.rebase (Nat.zero_le _)) HBD.out (by rw [HN.out]; omega))
    have RC := hZ (fun V (q : Below wr.heap.size wr V) => rApply_c ins regs ca oa cc oc code outs (.slice fa j fc) l V (HC.out.1.keep (bthen hB0r q)) (HC.out.2.keep (bthen hB0r q)) (HRR.out.keep lims_ref q) HBD.out (by rw [HN.out]; omega))
    have hBw := Below.refl wr.heap.size wr
    clear hF
    go_wp2
    go_region_held3 (fun W => W.cell? ⟨w.heap.size, 0, none⟩ = some (.int .i64 ins) ∧ W.cell? ⟨w.heap.size, 1, none⟩ = some (.int .i64 regs) ∧ W.cell? ⟨w.heap.size, 2, none⟩ = some (.slice ca code.length cc) ∧ W.cell? ⟨w.heap.size, 3, none⟩ = some (.slice oa outs.length oc))
     (first | (refine HS.out _ ?_; (repeat (first|exact bzR _ _|exact hBw|refine bzD ?_|refine bzN ?_|refine bzS ?_|refine bzA ?_)); done) | fail)
     (first
     | (go_at_call 33; (with_reducible refine (LA.out _ ?_).mono ?_); (repeat (first|exact bzR _ _|exact hBw|refine bzD ?_|refine bzN ?_|refine bzS ?_|refine bzA ?_)); rintro e w3 ⟨⟨vx, rfl, hx⟩, hb3⟩; (replace hBw : Below wr.heap.size wr w3 := bthen bZ hb3); have HX := hZ hx; have hy3 := Below.refl w3.heap.size w3)
     | (go_at_call 32; (with_reducible refine (AC.out _ _ _ (HX.out.keep lims_int ?_) ?_).mono ?_); (repeat (first|exact bzR _ _|exact hy3|refine bzD ?_|refine bzN ?_|refine bzS ?_|refine bzA ?_)); (repeat (first|exact bzR _ _|exact hBw|refine bzD ?_|refine bzN ?_|refine bzS ?_|refine bzA ?_)); rintro e w4 ⟨⟨va, qa, rfl, ha⟩, hb4⟩; (replace hBw : Below wr.heap.size wr w4 := bthen bZ hb4); have HA := hZ ha)
     | fail)
    all_goals
     obtain ⟨p0, p1, p2, p3⟩ := HS.out w4 hBw
     have zp := cell_lt p0
     have hy4 := Below.refl w4.heap.size w4
     have hB4 := bthen hB0r hBw
     go_wp2_with fail
     (with_reducible refine (RC.out _ (bthen hBw ?_)).mono ?_); (repeat (first|exact bzR _ _|exact hy4|refine bzD ?_|refine bzN ?_|refine bzS ?_|refine bzA ?_))
     rintro e w5 ⟨⟨vr, qr, rfl, hr⟩, hb5⟩
     have h45 : Below w4.heap.size w4 w5 := bthen bZ hb5
     obtain ⟨rfl, A, fA, rA, hAb, hAl⟩ := app_det HBD.out HA.out hr
     have hB5 := bthen hB4 h45
     have LC := hZ (fun V (q : Below w5.heap.size w5 V) => line9_c va vr A 65536 V ((fA.keep h45).keep q) (rA.keep q) hAb (by omega) (by omega))
     have d1 : (qa == qa) = true := by simp
     have hy5 := Below.refl w5.heap.size w5
     clear hb5 hr fA rA hAb hAl RC HA
     go_wp2_with fail
     (with_reducible refine (LC.out _ ?_).mono ?_); (repeat (first|exact bzR _ _|exact hy5|refine bzD ?_|refine bzN ?_|refine bzS ?_|refine bzA ?_))
     rintro e w6 ⟨rfl, hb6⟩
     have hB6 : Below w.heap.size w w6 := bthen hB5 (bthen bZ hb6)
     clear LC hb6
     go_wp2
     go_ret
     exact ⟨rfl, bZ⟩
end
end Go.Proofs.YtbmaffijncapiaaGreatDoor
namespace Go.Proofs.YtbmaffijncapiaaGreatDoor
open Go.ChangeShapes Go.WideShapes Go.ChangeAt Go.RowKit Go.Joins Go.Deep
section
variable {H : Type} {enc : TypeId × Value → H} {W : World} {b0 : Nat} {r : Reach} {v : Value} {d : DataW H} {p : List MemPlace}
theorem bytes_i64 : Tryz.prog.bytesOf 2 = 8 := by kernel_rfl
theorem open_i64row_w (hv : Value.okWide Tryz.prog W r b0 64 v) (h : DataW.Trod enc Tryz.prog W 0 (fun _ => true) true 64 v d p) (hw : ∀ n ∈ d.weights Tryz.prog 64, n ≤ reachBytes) :
 ∃ l, RowI W v l ∧ l.length ≤ 1152921504606846976 := by
 obtain ⟨a, n, cap, rfl⟩ := okWide_slice Tryz.underlying64 hv
 obtain ⟨fuel, hf⟩ := h
 rcases open_ints Tryz.underlying64 Tryz.underlying2 (by kernel_rfl) hf with ⟨hcs, hx⟩ | ⟨a', len, c, zs, hcs, _, hl, hm, hz, hx, hc, hwf⟩
 · simp [Value.cells] at hcs
   obtain ⟨rfl, rfl, rfl⟩ := hcs
   exact ⟨[], ⟨_, _, rfl, fun k hk => absurd hk (by simp)⟩, by simp⟩
 · simp [Value.cells] at hcs
   obtain ⟨rfl, rfl, rfl⟩ := hcs
   simp only [if_true] at hz
   simp only [Prod.mk.injEq] at hx
   have hlen : (zs.take n).length = n := by rw [List.length_take]; omega
   refine ⟨zs.take n, ⟨_, _, by rw [hlen], fun k hk => ?_⟩, ?_⟩
   · rw [hlen] at hk
     obtain ⟨b, o, rfl⟩ := plain_at (hc 0 (by omega))
     have h9 := hc k (by omega)
     rw [add_plain] at h9
     have e2 : (zs.take n).getD k 0 = zs.getD k 0 := by rw [List.getD_eq_getElem?_getD, List.getD_eq_getElem?_getD, List.getElem?_take_of_lt hk]
     rw [e2]
     refine ⟨b, o, rfl, h9, i64_of (hwf _ ?_)⟩
     rw [List.getD_eq_getElem?_getD, List.getElem?_eq_getElem (by omega)]
     exact List.getElem_mem _
   · have hmem : ((lits (H := H) .i64 (zs.take n)).length + (lits (H := H) .i64 (zs.drop n)).length) * Tryz.prog.bytesOf 2 ∈ d.weights Tryz.prog 64 := by
      rw [hx.1]
      simp only [DataW.weights, Tryz.underlying64]
      exact List.mem_cons.2 (.inl rfl)
     have h8 := hw _ hmem
     have h9 := reachBytes_lt
     rw [bytes_i64] at h8
     simp only [lits, List.length_map] at h8
     rw [hlen] at h8 ⊢
     omega
end
end Go.Proofs.YtbmaffijncapiaaGreatDoor
