/- Texts of this seat, laid together: MxM, MxN. Each opens with its own remark, which says what it proves, and under which conditions. -/
import Derived.Test.YtbmaffijncapiaaGreatDoorD21
import Derived.Test.YtbmaffijncapiaaGreatDoorD18
import Derived.Test.YtbmaffijncapiaaGreatDoorD03
import Derived.Test.YtbmaffijncapiaaGreatDoorD15
set_option linter.unusedVariables false
set_option linter.unusedSimpArgs false
/- matrix: Det, Adjugate; row: Content. -/
namespace Go.Proofs.YtbmaffijncapiaaGreatDoor
open Num
open Go.ChangeShapes Go.WideShapes Go.ChangeAt Go.RowKit
set_option linter.unusedVariables false
set_option linter.unusedSimpArgs false
attribute [local go_sem ↓] Go.wp_at_zero Go.wp_at_succ
theorem sq_rct {g : Grid} (h : sqB g = true) (hr : Rct g (cols g)) : Rct g g.length := by
  unfold sqB at h
  simp at h
  rw [h.2]
  exact fun i hi => hr i (by omega)
theorem sq_pos {g : Grid} (h : sqB g = true) : 0 < g.length := by unfold sqB at h; simp at h; exact h.1
def DetPost (g : Grid) (w : World) (e : Ending) (w' : World) : Prop :=
  ((sqB g = true ∧ ∃ u, e = .returned (.tuple #[u, .int .i64 0]) ∧ IsInt w' u (Det.detE g.length (gat g))) ∨ (sqB g = false ∧ e = .returned (.tuple #[.agg #[.bool false, .slice none 0 0], .int .i64 5]))) ∧ Below w.heap.size w w'
set_option maxRecDepth 100000 in
set_option maxHeartbeats 4000000 in
theorem detM_c (v : Value) (g : Grid) (K : Nat) (w : World) (hv : IsM 0 w v g) (hr : Rct g (cols g)) (hn : g.length ≤ 65536) (hK1 : 1 ≤ K) (hbd : BdM K g) (hK : kb K g.length ≤ 4294967296) :
    Calls Tryz.prog 60 #[v] w (DetPost g w) := by
  have sc := fun W (q : Below w.heap.size w W) => square_c v g W (hv.keep q)
  obtain ⟨ag, cg, rfl, lv⟩ := hv
  have dc := fun W (q : Below w.heap.size w W) (h : sqB g = true) => det_c (.slice ag g.length cg) g K W (lv.keep (prs_prow 0) q) (sq_rct h hr) (by omega) hK1 hbd hK
  have SC := Lib.hid sc
  have DC := Lib.hid dc
  clear sc dc lv hr hbd
  obtain ⟨N, hN⟩ : ∃ N, g.length = N := ⟨_, rfl⟩
  have HN := Lib.hid hN
  rw [hN] at SC DC hn hK ⊢
  clear hN
  have hB := Below.refl w.heap.size w
  obtain ⟨b, hb⟩ : ∃ b, sqB g = b := ⟨_, rfl⟩
  have HBQ := Lib.hid hb
  rw [hb] at SC
  clear hb
  cases b with
  | true =>
    go_enter Tryz.func60, Tryz.ntmps60
    go_wp2_with fail
    refine (SC.out _ (by repeat (first|exact bzR _ _|exact hB|refine bzD ?_|refine bzN ?_|refine bzS ?_|refine bzA ?_))).mono ?_
    rintro e w1 ⟨rfl, hb1⟩
    have m0 : w1.cell? ⟨w.heap.size, 0, none⟩ = some (.slice ag N cg) := bkc hb1
    have zm0 := cell_lt m0
    have r0 : w1.cell? ⟨w.heap.size + 1, 0, none⟩ = some (.bool false) := bkc hb1
    have zr0 := cell_lt r0
    have r0f : w1.frozen? ⟨w.heap.size + 1, 0, none⟩ = false := bkcf (v := .bool false) hb1
    have r1 : w1.cell? ⟨w.heap.size + 1, 1, none⟩ = some (.slice none 0 0) := bkc hb1
    have r1f : w1.frozen? ⟨w.heap.size + 1, 1, none⟩ = false := bkcf (v := .slice none 0 0) hb1
    have hB : Below w.heap.size w w1 := bthen (by repeat (first|exact bzR _ _|exact hB|refine bzD ?_|refine bzN ?_|refine bzS ?_|refine bzA ?_)) hb1
    have hz : w.heap.size ≤ w1.heap.size := hB.size
    go_wp2_with fail
    refine (DC.out _ (by repeat (first|exact bzR _ _|exact hB|refine bzD ?_|refine bzN ?_|refine bzS ?_|refine bzA ?_)) HBQ.out).mono ?_
    rintro e w2 ⟨⟨u, rfl, hu⟩, hb2⟩
    have m0 : w2.cell? ⟨w.heap.size, 0, none⟩ = some (.slice ag N cg) := bkc hb2
    have zm0 := cell_lt m0
    have r0 : w2.cell? ⟨w.heap.size + 1, 0, none⟩ = some (.bool false) := bkc hb2
    have zr0 := cell_lt r0
    have r0f : w2.frozen? ⟨w.heap.size + 1, 0, none⟩ = false := bkcf (v := .bool false) hb2
    have r1 : w2.cell? ⟨w.heap.size + 1, 1, none⟩ = some (.slice none 0 0) := bkc hb2
    have r1f : w2.frozen? ⟨w.heap.size + 1, 1, none⟩ = false := bkcf (v := .slice none 0 0) hb2
    have hB : Below w.heap.size w w2 := bthen (by repeat (first|exact bzR _ _|exact hB|refine bzD ?_|refine bzN ?_|refine bzS ?_|refine bzA ?_)) hb2
    have hz : w.heap.size ≤ w2.heap.size := hB.size
    have HP := Lib.hid (hu.put2 r0 r1)
    obtain ⟨nu, au, cu, lu, rfl, -⟩ := hu
    unfold iv at *
    clear SC DC
    go_wp2
    refine bodyPost_ret (v := .tuple #[.agg #[.bool nu, .slice au lu.length cu], .int .i64 0]) (by simp [results, Tryz.results60, go_sem, *]) rfl ⟨.inl ⟨HBQ.out, _, rfl, by rw [HN.out]; exact HP.out _ _⟩, ?_⟩
    repeat (first|exact bzR _ _|exact hB|refine bzD ?_|refine bzN ?_|refine bzS ?_|refine bzA ?_)
  | false =>
    go_enter Tryz.func60, Tryz.ntmps60
    go_wp2_with fail
    refine (SC.out _ (by repeat (first|exact bzR _ _|exact hB|refine bzD ?_|refine bzN ?_|refine bzS ?_|refine bzA ?_))).mono ?_
    rintro e w1 ⟨rfl, hb1⟩
    have m0 : w1.cell? ⟨w.heap.size, 0, none⟩ = some (.slice ag N cg) := bkc hb1
    have zm0 := cell_lt m0
    have r0 : w1.cell? ⟨w.heap.size + 1, 0, none⟩ = some (.bool false) := bkc hb1
    have zr0 := cell_lt r0
    have r0f : w1.frozen? ⟨w.heap.size + 1, 0, none⟩ = false := bkcf (v := .bool false) hb1
    have r1 : w1.cell? ⟨w.heap.size + 1, 1, none⟩ = some (.slice none 0 0) := bkc hb1
    have r1f : w1.frozen? ⟨w.heap.size + 1, 1, none⟩ = false := bkcf (v := .slice none 0 0) hb1
    have hB : Below w.heap.size w w1 := bthen (by repeat (first|exact bzR _ _|exact hB|refine bzD ?_|refine bzN ?_|refine bzS ?_|refine bzA ?_)) hb1
    have hz : w.heap.size ≤ w1.heap.size := hB.size
    clear SC DC
    go_wp2
    refine bodyPost_ret (v := .tuple #[.agg #[.bool false, .slice none 0 0], .int .i64 5]) (by simp [results, Tryz.results60, go_sem, *]) rfl ⟨.inr ⟨HBQ.out, rfl⟩, ?_⟩
    repeat (first|exact bzR _ _|exact hB|refine bzD ?_|refine bzN ?_|refine bzS ?_|refine bzA ?_)
def adjG (g : Grid) : Grid := tab g.length g.length (Det.iadj g.length (gat g))
set_option maxRecDepth 100000 in
set_option maxHeartbeats 8000000 in
theorem adjM_c (v : Value) (g : Grid) (K : Nat) (w : World) (hv : IsM 0 w v g) (hr : Rct g (cols g)) (hn : g.length ≤ 65536) (hK1 : 1 ≤ K) (hbd : BdM K g) (hK : kb K (g.length - 1) ≤ 4294967296) :
    Calls Tryz.prog 69 #[v] w (MOr (sqB g = true) 5 (adjG g) w) := by
  have sc := fun W (q : Below w.heap.size w W) => square_c v g W (hv.keep q)
  obtain ⟨ag, cg, rfl, lv⟩ := hv
  have rc1 := fun V => rowsM_c ag g.length cg V
  have fc := fun V (q : Below w.heap.size w V) (e1 : V.cell? ⟨w.heap.size, 0, none⟩ = some (.slice ag g.length cg)) (h : sqB g = true) =>
    filled_c g.length g.length (Det.iadj g.length (gat g)) 158 #[.pointer (some ⟨w.heap.size, 0, none⟩)] V (adj1_c w.heap.size g K V (lv.box q e1) (sq_rct h hr) hn hK1 hbd hK) (ens Tryz.func158 (by kernel_rfl) rfl) (by omega) (by omega)
  have SC := Lib.hid sc
  have FC := Lib.hid fc
  have RC1 := Lib.hid rc1
  clear sc fc rc1 lv hr hbd
  unfold adjG
  obtain ⟨FF, hFF⟩ : ∃ FF, Det.iadj g.length (gat g) = FF := ⟨_, rfl⟩
  rw [hFF] at FC ⊢
  clear hFF
  obtain ⟨N, hN⟩ : ∃ N, g.length = N := ⟨_, rfl⟩
  rw [hN] at SC FC RC1 hn hK ⊢
  clear hN
  have hB := Below.refl w.heap.size w
  obtain ⟨b, hb⟩ : ∃ b, sqB g = b := ⟨_, rfl⟩
  have HBQ := Lib.hid hb
  rw [hb] at SC
  clear hb
  cases b with
  | true =>
    go_enter Tryz.func69, Tryz.ntmps69
    go_wp2_with fail
    refine (SC.out _ (by repeat (first|exact bzR _ _|exact hB|refine bzD ?_|refine bzN ?_|refine bzS ?_|refine bzA ?_))).mono ?_
    rintro e w1 ⟨rfl, hb1⟩
    have m0 : w1.cell? ⟨w.heap.size, 0, none⟩ = some (.slice ag N cg) := bkc hb1
    have zm0 := cell_lt m0
    have r0 : w1.cell? ⟨w.heap.size + 1, 0, none⟩ = some (.slice none 0 0) := bkc hb1
    have zr0 := cell_lt r0
    have r0f : w1.frozen? ⟨w.heap.size + 1, 0, none⟩ = false := bkcf (v := .slice none 0 0) hb1
    have hB : Below w.heap.size w w1 := bthen (by repeat (first|exact bzR _ _|exact hB|refine bzD ?_|refine bzN ?_|refine bzS ?_|refine bzA ?_)) hb1
    have hz : w.heap.size ≤ w1.heap.size := hB.size
    have HT1 := Lib.hid (show typOf w1 (w.heap.size + 1) = some 47 from typ_keep (typ_fresh (by simp)) hb1)
    go_wp2
    refine wp_region_grow_tail (w := w1) 5 (by kernel_rfl) (by kernel_rfl) ?_
    simp only [List.take_succ_cons, List.take_zero, List.drop_succ_cons, List.drop_zero]
    have m0g : ∀ gs, (grow w1 gs).cell? ⟨w.heap.size, 0, none⟩ = some (.slice ag N cg) := fun gs => bkeep gs.below m0
    have r0g : ∀ gs, (grow w1 gs).cell? ⟨w.heap.size + 1, 0, none⟩ = some (.slice none 0 0) := fun gs => bkeep gs.below r0
    repeat (go_big_quiet_step ((first | (go_at_call 24; with_reducible exact grow_of (RC1.out _)) | fail)))
    refine wpQuiet_nil ?_
    intro w2 hb2
    clear m0g
    clear r0g
    have m0 := bkeep hb2 m0
    have r0f := bkeepf hb2 r0 r0f
    have r0 := bkeep hb2 r0
    have hB := bthen hB hb2
    have hz := hB.size
    have HT2 := Lib.hid (typ_keep HT1.out hb2)
    clear HT1
    go_wp2_with fail
    refine (FC.out _ hB m0 HBQ.out).mono ?_
    rintro e w3 ⟨⟨v3, rfl, hv3⟩, hb3⟩
    have HT3 := typ_keep HT2.out hb3
    have HV := Lib.hid (hv3.rebase hz)
    obtain ⟨a3, c3, rfl⟩ := hv3.lit
    have m0 := bkeep hb3 m0
    have r0f := bkeepf hb3 r0 r0f
    have r0 := bkeep hb3 r0
    have hB := bthen hB hb3
    have hz := hB.size
    rw [tab_len] at HV ⊢
    clear FC hv3 m0 SC
    go_wp2
    refine bodyPost_ret (v := .tuple #[.agg #[.slice a3 N c3], .int .i64 0]) (by simp [results, Tryz.results69, go_sem, *]) rfl ⟨.inl ⟨HBQ.out, _, rfl, HV.out.setM HT3 _⟩, ?_⟩
    repeat (first|exact bzR _ _|exact hB|refine bzD ?_|refine bzN ?_|refine bzS ?_|refine bzA ?_)
  | false =>
    go_enter Tryz.func69, Tryz.ntmps69
    go_wp2_with fail
    refine (SC.out _ (by repeat (first|exact bzR _ _|exact hB|refine bzD ?_|refine bzN ?_|refine bzS ?_|refine bzA ?_))).mono ?_
    rintro e w1 ⟨rfl, hb1⟩
    have m0 : w1.cell? ⟨w.heap.size, 0, none⟩ = some (.slice ag N cg) := bkc hb1
    have zm0 := cell_lt m0
    have r0 : w1.cell? ⟨w.heap.size + 1, 0, none⟩ = some (.slice none 0 0) := bkc hb1
    have zr0 := cell_lt r0
    have r0f : w1.frozen? ⟨w.heap.size + 1, 0, none⟩ = false := bkcf (v := .slice none 0 0) hb1
    have hB : Below w.heap.size w w1 := bthen (by repeat (first|exact bzR _ _|exact hB|refine bzD ?_|refine bzN ?_|refine bzS ?_|refine bzA ?_)) hb1
    have hz : w.heap.size ≤ w1.heap.size := hB.size
    clear SC FC
    go_wp2
    refine bodyPost_ret (v := .tuple #[.agg #[.slice none 0 0], .int .i64 5]) (by simp [results, Tryz.results69, go_sem, *]) rfl ⟨.inr ⟨by rw [HBQ.out]; decide, rfl⟩, ?_⟩
    repeat (first|exact bzR _ _|exact hB|refine bzD ?_|refine bzN ?_|refine bzS ?_|refine bzA ?_)
set_option maxRecDepth 100000 in
set_option maxHeartbeats 8000000 in
theorem content_c (v : Value) (l : List Int) (k : Nat) (w : World) (hv : PRow 0 w v l) (hl : l.length ≤ 1099511627775) (hb : ∀ j, Bd k (l.getD j 0)) (hk : k ≤ 17179869184) :
    Calls Tryz.prog 162 #[v] w fun e w' => (∃ u, e = .returned u ∧ IsInt w' u (contL l)) ∧ Below w.heap.size w w' := by
  have HV := Lib.hid hv
  have HBD := Lib.hid hb
  have HCB := Lib.hid (contL_bd hb)
  have HC1 := Lib.hid (fun j (h : contL (l.take j) = 1) => contL_one h)
  obtain ⟨va, vc, rfl, -⟩ := hv
  clear hb
  have hB := Below.refl w.heap.size w
  go_enter Tryz.func162, Tryz.ntmps162
  go_wp2
  go_step3
  go_wp2
  refine wp_name fun w0 hW0 => ?_
  have hB0 : Below w.heap.size w w0 := by rw [hW0]; repeat (first|exact bzR _ _|exact hB|refine bzD ?_|refine bzN ?_|refine bzS ?_|refine bzA ?_)
  have HR0 := Lib.hid (show w0.cell? ⟨w.heap.size, 0, none⟩ = some (.bool false) ∧ w0.cell? ⟨w.heap.size, 1, none⟩ = some (.slice none 0 0) ∧ w0.frozen? ⟨w.heap.size, 0, none⟩ = false ∧ w0.frozen? ⟨w.heap.size, 1, none⟩ = false from by rw [hW0]; simp [go_sem])
  have HM0 := Lib.hid (show VarI (w.heap.size + 1) 0 w0 from by rw [hW0]; exact ⟨typ_fresh (by simp), false, none, 0, 0, by simp [go_sem], by simp [go_sem], by simp [go_sem], by simp [go_sem], isInt_zero _⟩)
  clear hW0
  go_step3
  go_wp2
  go_loopw [8] (fun x wr => ∃ j : Nat, j ≤ l.length ∧ x = .int .i64 j ∧ Below w.heap.size w wr ∧ Hid (wr.cell? ⟨w.heap.size, 0, none⟩ = some (.bool false) ∧ wr.cell? ⟨w.heap.size, 1, none⟩ = some (.slice none 0 0) ∧ wr.frozen? ⟨w.heap.size, 0, none⟩ = false ∧ wr.frozen? ⟨w.heap.size, 1, none⟩ = false) ∧ Hid (VarI (w.heap.size + 1) (contL (l.take j)) wr)) (fun x _ => l.length - (intOf x).toNat)
  case atStart => exact ⟨0, Nat.zero_le _, rfl, hB0, HR0, HM0⟩
  case round =>
    obtain ⟨j, hj, rfl, hBr, HR, hM⟩ := hrel
    obtain ⟨-, n0, a0, ln0, c0, m0, m1, m0f, m1f, hi0⟩ := hM.out
    obtain ⟨r0, r1, r0f, r1f⟩ := HR.out
    have HI0 := Lib.hid hi0
    have zm := cell_lt m0
    have zr := cell_lt r0
    have HR' := HR
    clear hi0 HR
    by_cases hlt : j < l.length
    · have hltI : (j : Int) < (l.length : Int) := by omega
      obtain ⟨a', c', he, -, vr⟩ := (HV.out.keep lims_int hBr).view
      obtain ⟨rfl, -, rfl⟩ := Value.slice.inj he
      obtain ⟨b, off, n2, a2, l2, cc2, rfl, d0, d1, hi⟩ := vr j hlt
      have HW := Lib.hid (contL_take hlt)
      have bs := HCB.out j hj
      have bj := HBD.out j
      obtain ⟨x, hx⟩ : ∃ x, l.getD j 0 = x := ⟨_, rfl⟩
      rw [hx] at hi HW bj
      obtain ⟨m, hm⟩ : ∃ m, contL (l.take j) = m := ⟨_, rfl⟩
      rw [hm] at HI0 HW hM bs
      have zd := cell_lt d0
      have gc := fun W (h : Below wr.heap.size wr W) => gcdI_c _ _ m x k W (HI0.out.keep h) (hi.keep h) bs bj hk
      clear hx hm he vr hi bs bj
      have hBw := Below.refl wr.heap.size wr
      go_wp2_with fail
      refine (gc _ (by repeat (first|exact bzR _ _|exact hBw|refine bzD ?_|refine bzN ?_|refine bzS ?_|refine bzA ?_))).mono ?_
      rintro e w2 ⟨⟨u, rfl, hu⟩, hb2⟩
      have hb2' : Below wr.heap.size wr w2 := bthen (by repeat (first|exact bzR _ _|exact hBw|refine bzD ?_|refine bzN ?_|refine bzS ?_|refine bzA ?_)) hb2
      have HU := Lib.hid hu
      obtain ⟨nu, au, cu, lu, rfl, -⟩ := hu
      unfold iv at *
      have HV2 := Lib.hid ((hM.out.keep hb2').put HU.out)
      replace r0f := bkeepf hb2' r0 r0f
      replace r1f := bkeepf hb2' r1 r1f
      replace m0f := bkeepf hb2' m0 m0f
      replace m1f := bkeepf hb2' m1 m1f
      replace r0 := bkeep hb2' r0
      replace r1 := bkeep hb2' r1
      replace m0 := bkeep hb2' m0
      replace m1 := bkeep hb2' m1
      have hB2 := bthen hBr hb2'
      clear gc d0 d1 hb2 HI0
      go_wp2
      refine wp_name fun w3 hW3 => ?_
      have HV3 := Lib.hid (show VarI (w.heap.size + 1) (gcdI m x) w3 from by rw [hW3]; exact HV2.out)
      have HR3 := Lib.hid (show w3.cell? ⟨w.heap.size, 0, none⟩ = some (.bool false) ∧ w3.cell? ⟨w.heap.size, 1, none⟩ = some (.slice none 0 0) ∧ w3.frozen? ⟨w.heap.size, 0, none⟩ = false ∧ w3.frozen? ⟨w.heap.size, 1, none⟩ = false from by
        rw [hW3]
        exact ⟨cell_far2 r0 (by omega) _ _ _ _, cell_far2 r1 (by omega) _ _ _ _, by rw [World.frozen?_setCell, World.frozen?_setCell]; exact r0f, by rw [World.frozen?_setCell, World.frozen?_setCell]; exact r1f⟩)
      have hB3 : Below w.heap.size w w3 := by rw [hW3]; exact bset (bset hB2 (by show w.heap.size ≤ w.heap.size + 1; omega) _) (by show w.heap.size ≤ w.heap.size + 1; omega) _
      clear hW3 HV2 r0 r1 r0f r1f m0 m1 m0f m1f hB2 HU hb2' hM HR'
      rw [← HW.out] at HV3
      obtain ⟨z, hz⟩ : ∃ z, contL (l.take (j + 1)) = z := ⟨_, rfl⟩
      have HZ := Lib.hid hz
      rw [hz] at HV3
      clear hz HW
      obtain ⟨-, n3, a3, ln3, c3, q0, q1, -, -, qI⟩ := HV3.out
      have HQI := Lib.hid qI
      clear qI
      have zq := cell_lt q0
      have oc := fun W => of_c 1 W (by decide) (by decide)
      obtain ⟨c, hc⟩ : ∃ c, cmpI z 1 = c := ⟨_, rfl⟩
      have HC := Lib.hid hc
      have kc := fun vy W (q : Below w3.heap.size w3 W) (hy : IsInt W vy 1) => cmp_c _ vy z 1 W (HQI.out.keep q) hy
      rw [hc] at kc
      clear hc
      have hBx := Below.refl w3.heap.size w3
      have HS := Lib.hid (show ∀ W, Below w3.heap.size w3 W → W.cell? ⟨w.heap.size + 1, 0, none⟩ = some (.bool n3) ∧ W.cell? ⟨w.heap.size + 1, 1, none⟩ = some (.slice a3 ln3 c3) from fun W q => ⟨bkeep q q0, bkeep q q1⟩)
      go_region_held3 (fun W => W.cell? ⟨w.heap.size + 1, 0, none⟩ = some (.bool n3) ∧ W.cell? ⟨w.heap.size + 1, 1, none⟩ = some (.slice a3 ln3 c3))
        (first | (refine HS.out _ ?_; (repeat (first|exact bzR _ _|exact hBx|refine bzD ?_|refine bzN ?_|refine bzS ?_|refine bzA ?_)); done) | fail)
        (first
        | (go_at_call 45; refine (oc _).mono ?_; rintro e w5 ⟨⟨v5, rfl, hi5⟩, hb5⟩; (have hBd : Below w3.heap.size w3 w5 := bthen (by repeat (first|exact bzR _ _|exact hBx|refine bzD ?_|refine bzN ?_|refine bzS ?_|refine bzA ?_)) hb5; clear hBx; have hBx := hBd; clear hBd); have HI5 := Lib.hid hi5; obtain ⟨n5, a5, c5, l5, rfl, -⟩ := hi5; unfold iv at *)
        | (go_at_call 212; refine (kc _ _ ?_ (HI5.out.keep ?_)).mono ?_; (repeat (first|exact bzR _ _|exact hBx|refine bzD ?_|refine bzN ?_|refine bzS ?_|refine bzA ?_)); (have hBy := Below.refl w5.heap.size w5; (repeat (first|exact bzR _ _|exact hBy|refine bzD ?_|refine bzN ?_|refine bzS ?_|refine bzA ?_))); rintro e w6 ⟨rfl, hb6⟩; (have hBd : Below w3.heap.size w3 w6 := bthen (by repeat (first|exact bzR _ _|exact hBx|refine bzD ?_|refine bzN ?_|refine bzS ?_|refine bzA ?_)) hb6; clear hBx; have hBx := hBd; clear hBd))
        | fail)
      all_goals
        have HV6 := Lib.hid (HV3.out.keep hBx)
        obtain ⟨q0, q1⟩ := HS.out _ hBx
        have r0f := bkeepf hBx HR3.out.1 HR3.out.2.2.1
        have r1f := bkeepf hBx HR3.out.2.1 HR3.out.2.2.2
        have r0 := bkeep hBx HR3.out.1
        have r1 := bkeep hBx HR3.out.2.1
        have zq := cell_lt q0
        have zr := cell_lt r0
        have hB6 := bthen hB3 hBx
        have HQ6 := Lib.hid (HQI.out.keep hBx)
        by_cases hc0 : c = 0
        · have hce : (c == 0) = true := by simp [hc0]
          have HZ1 : Hid (z = 1) := Lib.hid (by
            have h := HC.out
            rw [hc0] at h
            unfold cmpI at h
            split at h
            · cases h
            · split at h
              · assumption
              · cases h)
          have HE := Lib.hid (show z = contL l from by rw [HC1.out (j + 1) (by rw [HZ.out]; exact HZ1.out)]; exact HZ1.out)
          have hp := Lib.hid (HQ6.out.put2 r0 r1)
          rw [HE.out] at hp
          clear HV6 HR3 HV3 HS kc oc hb6 hb5 hBx hB3
          go_wp2
          rw [Exit.noGoto_ret]
          refine bodyPost_ret (v := .agg #[.bool n3, .slice a3 ln3 c3]) (by simp [results, Tryz.results162, go_sem, *]) rfl ⟨⟨_, rfl, hp.out _ _⟩, ?_⟩
          repeat (first|exact bzR _ _|exact hB6|refine bzD ?_|refine bzN ?_|refine bzS ?_|refine bzA ?_)
        · have hce : (c == 0) = false := by simp [hc0]
          have HR6 := Lib.hid (show w6.cell? ⟨w.heap.size, 0, none⟩ = some (.bool false) ∧ w6.cell? ⟨w.heap.size, 1, none⟩ = some (.slice none 0 0) ∧ w6.frozen? ⟨w.heap.size, 0, none⟩ = false ∧ w6.frozen? ⟨w.heap.size, 1, none⟩ = false from ⟨r0, r1, r0f, r1f⟩)
          rw [← HZ.out] at HV6
          clear HR3 HV3 HS kc oc hb6 hb5 hBx hB3 hc0
          go_wp2
          exact ⟨⟨j + 1, hlt, by go_num, hB6, HR6, HV6⟩, meas hlt (by go_num) rfl⟩
    · obtain rfl : j = l.length := by omega
      rw [List.take_length] at HI0
      have hp := Lib.hid (HI0.out.put2 r0 r1)
      go_wp2
      rw [Exit.noGoto_ret]
      refine bodyPost_ret (v := .agg #[.bool n0, .slice a0 ln0 c0]) (by simp [results, Tryz.results162, go_sem, *]) rfl ⟨⟨_, rfl, hp.out _ _⟩, ?_⟩
      repeat (first|exact bzR _ _|exact hBr|refine bzD ?_|refine bzN ?_|refine bzS ?_|refine bzA ?_)
end Go.Proofs.YtbmaffijncapiaaGreatDoor

/- matrix: Inverse's function value. -/
namespace Go.Proofs.YtbmaffijncapiaaGreatDoor
open Num
open Go.ChangeShapes Go.WideShapes Go.ChangeAt Go.RowKit
set_option linter.unusedVariables false
set_option linter.unusedSimpArgs false
attribute [local go_sem ↓] Go.wp_at_zero Go.wp_at_succ
theorem IsInt.setT {w : World} {v : Value} {z : Int} {p : Addr} (h : IsInt w v z) (ht : typOf w p.block = some 50) (u : Value) : IsInt (w.setCell p u) v z :=
  h.lim (((Kp.refl (fun t => t ≠ 50) w).set (p := p) (fun t ht' => by rw [ht] at ht'; cases ht'; exact fun hh => hh rfl) u).lim (by decide))
theorem IsInt.al {w : World} {v : Value} {z : Int} (h : IsInt w v z) (o : Obj) : IsInt (w.alloc o) v z := h.keep (bal (Below.refl _ _) o)
set_option maxRecDepth 100000 in
set_option maxHeartbeats 8000000 in
theorem inv1_c (bm bo : Nat) (g : Grid) (n m k : Nat) (c : Int) (w : World) (hg : BoxM bm w g) (hc : VarI bo c w) (lg : g.length = n) (rg : Rct g m) (kg : BdM k g) (bc : Bd k c) (hk : k ≤ 17179869184) (hz : c ≠ 0) :
    FnF (fun i j => gat g i j / c) n m 164 #[.pointer (some ⟨bm, 0, none⟩), .pointer (some ⟨bo, 0, none⟩)] w := by
  intro W i j hi hj hW
  obtain ⟨c1, gb, go, rb, ro, rc, n1, a1, l1, k1, g0, g1, g2, g3, gi⟩ := (hg.keep hW).elem rg (by omega : i < g.length) hj
  rw [lg] at g0
  obtain ⟨-, nc, ac, lc, cc, x0, x1, -, -, xI⟩ := hc.keep hW
  have dc := fun V (q : Below W.heap.size W V) => divmod_c (.agg #[.bool n1, .slice a1 l1 k1]) (.agg #[.bool nc, .slice ac lc cc]) (gat g i j) c k V (gi.keep q) (xI.keep q) (kg i j) bc hk hz
  obtain ⟨q, hq⟩ : ∃ q, gat g i j / c = q := ⟨_, rfl⟩
  have HQ := Lib.hid hq
  rw [hq] at dc
  have DC := Lib.hid dc
  clear hg gi lg rg kg hW hc bc dc xI hz hq
  have hiI : (i : Int) < (n : Int) := by omega
  have hjI : (j : Int) < (m : Int) := by omega
  have z0 := cell_lt g0; have z1 := cell_lt g1; have z2 := cell_lt g2; have z3 := cell_lt x0
  have hB := Below.refl W.heap.size W
  show Calls Tryz.prog 164 #[.int .i64 (i : Nat), .int .i64 (j : Nat), .pointer (some ⟨bm, 0, none⟩), .pointer (some ⟨bo, 0, none⟩)] W _
  dsimp only
  rw [HQ.out]
  go_enter Tryz.func164, Tryz.ntmps164
  go_wp2
  refine wp_name fun w1 hW1 => ?_
  have hBc : Below W.heap.size W w1 := by rw [hW1]; repeat (first|exact bzR _ _|exact hB|refine bzD ?_|refine bzN ?_|refine bzS ?_|refine bzA ?_)
  have HR1 := Lib.hid (show w1.cell? ⟨W.heap.size, 0, none⟩ = some (.bool false) ∧ w1.cell? ⟨W.heap.size, 1, none⟩ = some (.slice none 0 0) ∧ w1.frozen? ⟨W.heap.size, 0, none⟩ = false ∧ w1.frozen? ⟨W.heap.size, 1, none⟩ = false from by rw [hW1]; simp [go_sem])
  clear hW1
  replace g0 := bkeep hBc g0
  replace g1 := bkeep hBc g1
  replace g2 := bkeep hBc g2
  replace g3 := bkeep hBc g3
  replace x0 := bkeep hBc x0
  replace x1 := bkeep hBc x1
  replace z0 := cell_lt g0; replace z1 := cell_lt g1; replace z2 := cell_lt g2; replace z3 := cell_lt x0
  go_cut [7] (fun s7 wx => ∃ qb, s7 = .pointer (some ⟨qb, 0, none⟩) ∧ Hid (VarI qb q wx) ∧ Below w1.heap.size w1 wx)
  case first =>
    have hBj := Below.refl w1.heap.size w1
    have HS := Lib.hid (show ∀ V, Below w1.heap.size w1 V → V.cell? ⟨bm, 0, none⟩ = some (.slice (some ⟨gb, go, none⟩) n c1) ∧ V.cell? ⟨gb, go + i, none⟩ = some (.slice (some ⟨rb, ro, none⟩) m rc) ∧ V.cell? ⟨rb, ro + j * 2, none⟩ = some (.bool n1) ∧ V.cell? ⟨rb, ro + j * 2 + 1, none⟩ = some (.slice a1 l1 k1) ∧ V.cell? ⟨bo, 0, none⟩ = some (.bool nc) ∧ V.cell? ⟨bo, 1, none⟩ = some (.slice ac lc cc) from fun V q => ⟨bkeep q g0, bkeep q g1, bkeep q g2, bkeep q g3, bkeep q x0, bkeep q x1⟩)
    go_region_held3 (fun V => V.cell? ⟨bm, 0, none⟩ = some (.slice (some ⟨gb, go, none⟩) n c1) ∧ V.cell? ⟨gb, go + i, none⟩ = some (.slice (some ⟨rb, ro, none⟩) m rc) ∧ V.cell? ⟨rb, ro + j * 2, none⟩ = some (.bool n1) ∧ V.cell? ⟨rb, ro + j * 2 + 1, none⟩ = some (.slice a1 l1 k1) ∧ V.cell? ⟨bo, 0, none⟩ = some (.bool nc) ∧ V.cell? ⟨bo, 1, none⟩ = some (.slice ac lc cc))
      (first | (refine HS.out _ ?_; (repeat' (first | exact Below.refl _ _ | exact hBj | refine Below.drew ?_ | refine below_drewN ?_ _ | refine bal ?_ _ | refine bset ?_ ?_ _ | exact hla1 | exact Nat.le_trans hla1 (Nat.le_succ _) | exact Nat.le_refl _ | exact Nat.le_succ _)); done) | fail)
      (first
      | (go_at_call 163; refine (DC.out _ (bthen hBc ?_)).mono ?_; (repeat (first|exact bzR _ _|exact hBj|refine bzD ?_|refine bzN ?_|refine bzS ?_|refine bzA ?_)); rintro e w11 ⟨⟨u11, v11, rfl, hu11, hv11⟩, hb11⟩; (have hBd : Below w1.heap.size w1 w11 := bthen (by repeat (first|exact bzR _ _|exact hBj|refine bzD ?_|refine bzN ?_|refine bzS ?_|refine bzA ?_)) hb11; clear hBj; have hBj := hBd; clear hBd); have hc11 := (bcell hb11).1; have hf11 := (bcell hb11).2; have ht11 := tcell hb11; have hla1 := hBj.size; have hs11 := hb11.size; (try simp [go_sem] at hs11); (try have qa : w1.heap.size < w11.heap.size := by omega); (try have qb : w1.heap.size + 1 < w11.heap.size := by omega); have HU11 := Lib.hid hu11; obtain ⟨n11, a11, c11, l11, rfl, -⟩ := hu11; obtain ⟨n12, a12, c12, l12, rfl, -⟩ := hv11; unfold iv at *)
      | fail)
    all_goals
      go_wp2_with fail
      go_meet
      refine (fun hbx => ⟨_, rfl, Lib.hid ⟨?_, n11, a11, l11.length, c11, ?_, ?_, ?_, ?_, ?_⟩, hbx⟩ : Below w1.heap.size w1 _ → _) ?_
      all_goals first
        | (simp (disch := (first | (simp; done) | (simp; omega) | omega)) only [typ_set, typ_alloc_eq, typ_alloc_lt, ht11, typ_drew]; done)
        | (simp [go_sem, *]; done)
        | ((repeat' (first | exact Below.refl _ _ | exact hBj | refine Below.drew ?_ | refine below_drewN ?_ _ | refine bal ?_ _ | refine bset ?_ ?_ _ | exact hla1 | exact Nat.le_trans hla1 (Nat.le_succ _) | exact Nat.le_refl _ | exact Nat.le_succ _)); done)
        | ((repeat' (first | exact HU11.out | refine IsInt.al ?_ _ | refine IsInt.dr ?_ | refine IsInt.setT ?_ ?_ _)) <;> (simp (disch := (first | (simp; done) | (simp; omega) | omega)) only [typ_set, typ_alloc_eq, typ_alloc_lt, ht11, typ_drew]; done))
        | ((repeat (refine cell_far ?_ ?b _; case b => (first | (simp; done) | (simp; omega)))); (first | (refine cell_here (v := .bool false) ?_ _; (repeat (refine cell_far ?_ ?b _; case b => (first | (simp; done) | (simp; omega)))); (simp [go_sem, *]; done)) | (refine cell_here (v := .slice none 0 0) ?_ _; (repeat (refine cell_far ?_ ?b _; case b => (first | (simp; done) | (simp; omega)))); (simp [go_sem, *]; done))))
  case rest =>
    obtain ⟨qb, rfl, hX, hbx⟩ := hcut
    have hBW := bthen hBc hbx
    have r0f := bkeepf hbx HR1.out.1 HR1.out.2.2.1
    have r1f := bkeepf hbx HR1.out.2.1 HR1.out.2.2.2
    have r0 := bkeep hbx HR1.out.1
    have r1 := bkeep hbx HR1.out.2.1
    obtain ⟨-, nq, aq, lq, cq, q0, q1, -, -, qI⟩ := hX.out
    have hp := Lib.hid (qI.put2 r0 r1)
    have zq := cell_lt q0
    have zr := cell_lt r0
    clear qI hX HR1 g0 g1 g2 g3 x0 x1 DC
    go_wp2
    refine bodyPost_ret (v := .agg #[.bool nq, .slice aq lq cq]) (by simp [results, Tryz.results164, go_sem, *]) rfl ⟨⟨_, rfl, hp.out _ _⟩, ?_⟩
    repeat (first|exact bzR _ _|exact hBW|refine bzD ?_|refine bzN ?_|refine bzS ?_|refine bzA ?_)
end Go.Proofs.YtbmaffijncapiaaGreatDoor

