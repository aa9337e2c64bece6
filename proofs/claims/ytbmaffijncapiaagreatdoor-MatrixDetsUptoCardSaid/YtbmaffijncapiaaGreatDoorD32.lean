/- Texts of this seat, laid together: QrG, QrH, QrI. Each opens with its own remark, which says what it proves, and under which conditions. -/
import Derived.Test.YtbmaffijncapiaaGreatDoorD31
import Derived.Test.YtbmaffijncapiaaGreatDoorD29
import Derived.Test.YtbmaffijncapiaaGreatDoorD17
set_option linter.unusedVariables false
set_option linter.unusedSimpArgs false
/- The reference: Rats: a matrix's numbers as fractions, in rows that may be written. -/
namespace Go.Proofs.YtbmaffijncapiaaGreatDoor
open Num
open Go.ChangeShapes Go.WideShapes Go.ChangeAt Go.RowKit
set_option linter.unusedVariables false
set_option linter.unusedSimpArgs false
attribute [local go_sem ↓] Go.wp_at_zero Go.wp_at_succ
theorem infoQR : (Tryz.prog.info? 91).map (fun i => (i.zero, i.size, i.bytes)) = some (some (.agg #[.bool false, .slice none 0 0, .bool false, .slice none 0 0]), 4, 64) := by kernel_rfl
theorem elQR : Elt Tryz.prog 43 91 4 64 := Elt.mk' Tryz.underlying43 infoQR rfl (by decide) (by decide)
theorem infoQRs : (Tryz.prog.info? 43).map (fun i => (i.zero, i.size, i.bytes)) = some (some (.slice none 0 0), 1, 24) := by kernel_rfl
theorem elQRs : Elt Tryz.prog 208 43 1 24 := Elt.mk' Tryz.underlying208 infoQRs rfl (by decide) (by decide)
theorem FrBlk.kp {Q : World → Value → Rat → Prop} {E : TypeId} {w w' : World} {b n : Nat} {F : Nat → Rat} {S : TypeId → Prop} (hQ : FrK Q) (h : FrBlk Q E w b n F) (k : Kp S w w') (h1 : S 177) (h2 : S E) : FrBlk Q E w' b n F := by
  have hb := k b E h.ty h2
  refine ⟨k.typ h.ty h2, ⟨typ_lt (k.typ h.ty h2), fun j => by rw [World.frozen?_of_block (w := w) hb]; exact h.fr.2 j⟩, fun j hj => (h.at_ j hj).stay hQ hb (k.lim h1)⟩
def PRq (base : Nat) (w : World) (u : Value) (x : Nat × List Rat) : Prop :=
  ∃ c, u = .slice (some ⟨x.1, 0, none⟩) x.2.length c ∧ x.2.length ≤ c ∧ base ≤ x.1 ∧ FrBlk IsQR 91 w x.1 x.2.length (fun k => x.2.getD k 0)
theorem prs_prq (base : Nat) : Prs (fun t => t = 177 ∨ t = 91) (PRq base) where
  one := fun ⟨c, e, _⟩ => by rw [e]; rfl
  kp := fun ⟨c, e, hc, hb, h⟩ k => ⟨c, e, hc, hb, h.kp frk_ref k (.inl rfl) (.inr rfl)⟩
theorem FrOwn.prq {w0 w : World} {v : Value} {l : List Rat} (h : FrOwn IsQR 91 w0 w v l) (hl : 0 < l.length) : ∃ b, PRq w0.heap.size w v (b, l) := by
  obtain ⟨a, c, e, hc, h2⟩ := h.view
  rcases h2 with h2 | ⟨g, rfl, hg, hf, ht, h3⟩
  · omega
  · exact ⟨g, c, e, hc, hg, ht, hf, h3⟩
theorem PRq.rebase {base base' : Nat} {w : World} {u : Value} {x : Nat × List Rat} (h : PRq base w u x) (hb : base' ≤ base) : PRq base' w u x := by
  obtain ⟨c, e, hc, h1, h2⟩ := h; exact ⟨c, e, hc, by omega, h2⟩
theorem OwnL.frRows {w1 wr : World} {v : Value} {L : List (Nat × List Rat)} {n m : Nat} {g : Det.M} (h : OwnL 43 (PRq w1.heap.size) w1 wr v L) (hlen : L.length = n) (hr : ∀ i, i < n → (L.getD i default).2.length = m)
    (hg : ∀ i c, i < n → c < m → (L.getD i default).2.getD c 0 = g i c) (hinc : ∀ i j, i < j → j < L.length → (L.getD i default).1 < (L.getD j default).1) (h0 : 0 < n) :
    ∃ B c, v = .slice (some ⟨B, 0, none⟩) n c ∧ n ≤ c ∧ FrRows w1.heap.size wr.heap.size B n m wr (fun i => (L.getD i default).1) g := by
  obtain ⟨xs, ⟨⟨hl, h1⟩, _⟩, h2⟩ := h
  have at' : ∀ i (hi : i < n), L[i]'(by omega) = L.getD i default := fun i hi => by simp [hlen, hi]
  rcases h1 with ⟨rfl, h0'⟩ | ⟨B, cap, cur, rfl, hg', hh, hc, hm, hs, ht⟩
  · omega
  · have htB : typOf wr B = some 43 := by unfold typOf; rw [hh]
    refine ⟨B, cap, by rw [hlen], by omega, htB, hg', typ_lt htB, ⟨typ_lt htB, fun j => by simp [World.frozen?, hh]⟩, fun i hi => ?_, fun i hi => ?_, fun i hi => ?_, fun i j hi hj e => ?_, fun i hi => ?_⟩
    · obtain ⟨u, hu, c, e, hcc, _⟩ := h2 i (by omega)
      rw [at' i hi] at e hcc
      rw [hr i hi] at e hcc
      refine ⟨c, ?_, hcc⟩
      subst e
      rw [← ht, List.getElem?_take_of_lt (by omega)] at hu
      simpa [World.cell?, hh] using hu
    · obtain ⟨u, hu, c, e, _, hb, _⟩ := h2 i (by omega); rw [at' i hi] at hb; exact hb
    · obtain ⟨u, hu, c, e, _, _, hI⟩ := h2 i (by omega); rw [at' i hi] at hI; exact typ_lt hI.ty
    · rcases Nat.lt_trichotomy i j with hij | hij | hij
      · have := hinc i j hij (by omega); omega
      · exact hij
      · have := hinc j i hij (by omega); omega
    · obtain ⟨u, hu, c, e, _, _, hI⟩ := h2 i (by omega)
      rw [at' i hi, hr i hi] at hI
      exact hI.congr fun k hk => hg i k hi hk
theorem OwnL.ltq {base : Nat} {w1 wr : World} {v : Value} {L : List (Nat × List Rat)} (h : OwnL 43 (PRq base) w1 wr v L) : ∀ i, i < L.length → (L.getD i default).1 < wr.heap.size := fun i hi => by
  obtain ⟨xs, _, h2⟩ := h
  obtain ⟨u, hu, c, e, _, _, hI⟩ := h2 i hi
  have : L.getD i default = L[i] := by simp [hi]
  rw [this]; exact typ_lt hI.ty
def RatsPost (n m : Nat) (A : Det.M) (w : World) (e : Ending) (w' : World) : Prop :=
  (∃ B c bs, e = .returned (.slice (some ⟨B, 0, none⟩) n c) ∧ n ≤ c ∧ FrRows w.heap.size w'.heap.size B n m w' bs A) ∧ Below w.heap.size w w'
set_option maxRecDepth 100000 in
set_option maxHeartbeats 8000000 in
theorem rats_c (va : Value) (g : Grid) (m : Nat) (w : World) (ha : RefM w va g) (rg : Rct g m) (hn : g.length ≤ 65536) (hm : m ≤ 65536) (hn0 : 0 < g.length) (hm0 : 0 < m) :
    Calls Tryz.prog 150 #[va] w (RatsPost g.length m (Det.cst (gat g)) w) := by
  have HA := Lib.hid (show IsL 110 (RRow 0) 0 w va g from ha)
  obtain ⟨aa, ca, rfl, -⟩ : ∃ a c, va = .slice a g.length c ∧ True := by obtain ⟨a, c, e, _⟩ := HA.out.view; exact ⟨a, c, e, trivial⟩
  have HRG := Lib.hid rg
  obtain ⟨n, hnE⟩ : ∃ n, g.length = n := ⟨_, rfl⟩
  have HN := Lib.hid hnE
  rw [hnE] at hn hn0 ⊢
  clear ha rg hnE
  have hB := Below.refl w.heap.size w
  go_enter Tryz.func150, Tryz.ntmps150
  go_wp2
  go_loopw [3, 4] (fun v x wr => ∃ i : Nat, i ≤ n ∧ x = .int .i64 i ∧ Hid (∃ L : List (Nat × List Rat), OwnL 43 (PRq w.heap.size) w wr v L ∧ L.length = i ∧ (∀ t, t < i → (L.getD t default).2.length = m ∧ ∀ c, c < m → (L.getD t default).2.getD c 0 = (gat g t c : Rat)) ∧ (∀ s t, s < t → t < L.length → (L.getD s default).1 < (L.getD t default).1))) (fun _ x _ => n - (intOf x).toNat)
  case atStart => exact ⟨0, Nat.zero_le _, rfl, Lib.hid ⟨[], OwnL.nil _ _ hB, rfl, fun t ht => absurd ht (by omega), fun i j _ hj => by simp at hj⟩⟩
  case round =>
    obtain ⟨i, hi, rfl, hrel⟩ := hrel
    obtain ⟨L, hO, hLl, hLs, hinc⟩ := hrel.out
    have hBr := hO.bel
    obtain ⟨oa, oc, hvv⟩ := hO.ex
    rw [hLl] at hvv
    subst hvv
    have HO := Lib.hid hO
    have HLQ := Lib.hid (And.intro hLl (And.intro hLs hinc))
    have HLT := Lib.hid hO.ltq
    clear hO hrel hLl hLs hinc
    obtain ⟨wq, hwq⟩ : ∃ wq, wr = wq := ⟨_, rfl⟩
    rw [hwq] at HO HLT hBr ⊢
    clear hwq
    have hBq := Below.refl wq.heap.size wq
    by_cases hlt : i < n
    · have hltI : (i : Int) < (n : Int) := by omega
      go_wp2
      go_loopw [5, 6] (fun v x wr => ∃ j : Nat, j ≤ m ∧ x = .int .i64 j ∧ Hid (FrOwn IsQR 91 wq wr v ((List.range j).map fun t => (gat g i t : Rat)))) (fun _ x _ => m - (intOf x).toNat)
      case atStart => exact ⟨0, Nat.zero_le _, rfl, Lib.hid (FrOwn.nil _ _ hBq)⟩
      case round =>
        obtain ⟨j, hj, rfl, hF⟩ := hrel
        have hbF := hF.out.bel
        obtain ⟨fa, fc, hfv⟩ := hF.out.ex
        rw [List.length_map, List.length_range] at hfv
        subst hfv
        by_cases hlt2 : j < m
        · have hltJ : (j : Int) < (m : Int) := by omega
          obtain ⟨c4, gb, go, rb, ro, rc, n5, a5, l5, k5, e1, hu1, d0, d1, hI⟩ := IsL.relem HRG.out (HA.out.keep prs_rrow (bthen hBr hbF)) (i := i) (j := j) (by rw [HN.out]; exact hlt) hlt2
          obtain ⟨rfl, -, rfl⟩ := Value.slice.inj e1
          have HI := Lib.hid hI
          have HSN := Lib.hid (show (List.range (j + 1)).map (fun t => (gat g i t : Rat)) = (List.range j).map (fun t => (gat g i t : Rat)) ++ [(gat g i j : Rat)] by rw [List.range_succ, List.map_append]; rfl)
          obtain ⟨z, hz⟩ : ∃ z, gat g i j = z := ⟨_, rfl⟩
          rw [hz] at HI HSN
          have z1 := cell_lt hu1
          have z2 := cell_lt d0
          have WC := Lib.hid (fun V (q : Below wr.heap.size wr V) => rqWhole_c (.agg #[.bool n5, .slice a5 l5 k5]) z V (HI.out.keep q))
          have hBw := Below.refl wr.heap.size wr
          clear e1 hI hz
          go_wp2_with fail
          (with_reducible refine (WC.out _ ?_).mono ?_); (repeat (first|exact bzR _ _|exact hBw|refine bzD ?_|refine bzN ?_|refine bzS ?_|refine bzA ?_))
          rintro e w5 ⟨⟨u5, rfl, hu5⟩, hb5⟩
          have hb5' : Below wr.heap.size wr w5 := bthen (by repeat (first|exact bzR _ _|exact hBw|refine bzD ?_|refine bzN ?_|refine bzS ?_|refine bzA ?_)) hb5
          have HF5 := Lib.hid (hF.out.below frk_ref hb5')
          have HU5 := Lib.hid hu5
          obtain ⟨nn1, aa1, ll1, cc1, nn2, aa2, ll2, cc2, rfl, -, -⟩ := hu5
          have hln : ((List.range j).map (fun t => (gat g i t : Rat))).length + 1 ≤ 1099511627776 := by rw [List.length_map, List.length_range]; omega
          clear WC hb5 hF hbF hBr hBq hu1 d0 d1 z1 z2
          go_wp2_with (at_builtin; refine app_q elQR (by decide) frk_ref (by rfl) (by rfl) HF5.out HU5.out (by rfl) (by rfl) hln ?_)
          intro v' w8 hF8 _ _
          have HF8 := Lib.hid hF8
          rw [← HSN.out] at HF8
          clear hF8
          go_wp2
          exact ⟨⟨j + 1, hlt2, by go_num, HF8⟩, meas hlt2 (by go_num) rfl⟩
        · obtain rfl : j = m := by omega
          have hltJ : ¬ (j : Int) < (j : Int) := by omega
          obtain ⟨c4, gb, go, rb, ro, rc, n5, a5, l5, k5, e1, hu1, d0, d1, hI⟩ := IsL.relem HRG.out (HA.out.keep prs_rrow (bthen hBr hbF)) (i := i) (j := 0) (by rw [HN.out]; exact hlt) hm0
          obtain ⟨rfl, -, rfl⟩ := Value.slice.inj e1
          have z1 := cell_lt hu1
          obtain ⟨b, hpb⟩ := hF.out.prq (by rw [List.length_map, List.length_range]; exact hm0)
          have HPB := Lib.hid hpb
          have hwb : wq.heap.size ≤ b := by obtain ⟨c, e, hc, hb, _⟩ := hpb; exact hb
          have HOW := Lib.hid (HO.out.below (prs_prq _) hbF)
          have hll := HLQ.out.1
          have hws := hBr.size
          have hLL : (L.length + 1) * 24 ≤ 140737488355328 := by rw [hll]; omega
          have hLM : L.length + 1 ≤ maxLen := by rw [hll]; unfold maxLen; omega
          clear hpb hI e1 d0 d1
          go_wp2_with (at_builtin; refine appL elQRs (prs_prq _) (by decide) (by rfl) (by rfl) (HOW.out.below (prs_prq _) (bal (Below.refl _ _) _)) ((prs_prq _).kp (HPB.out.rebase hws) (Kp.of_below _ (bal (Below.refl _ _) _))) (by rfl) (by rfl) (cell_new rfl rfl) hLL hLM ?_)
          intro v' w8 hO8 hk8
          have HX := Lib.hid (show ∃ M : List (Nat × List Rat), OwnL 43 (PRq w.heap.size) w w8 v' M ∧ M.length = i + 1 ∧ (∀ t, t < i + 1 → (M.getD t default).2.length = j ∧ ∀ c, c < j → (M.getD t default).2.getD c 0 = (gat g t c : Rat)) ∧ (∀ s t, s < t → t < M.length → (M.getD s default).1 < (M.getD t default).1) from by
            obtain ⟨h1, h2, h3⟩ := HLQ.out
            refine ⟨_, hO8, by rw [List.length_append, h1]; rfl, fun t ht => ?_, fun s t hst ht => ?_⟩
            · by_cases e : t < i
              · rw [getD_app_lt (by omega)]; exact h2 t e
              · obtain rfl : t = L.length := by omega
                rw [getD_app_eq]
                refine ⟨by rw [List.length_map, List.length_range], fun c hc => ?_⟩
                rw [h1]
                simp [hc]
            · rw [List.length_append, List.length_singleton] at ht
              by_cases e : t < L.length
              · rw [getD_app_lt e, getD_app_lt (by omega)]; exact h3 s t hst e
              · obtain rfl : t = L.length := by omega
                rw [getD_app_lt (by omega), getD_app_eq]
                have := HLT.out s hst
                show (L.getD s default).1 < b
                omega)
          clear hO8 hk8
          go_wp2
          exact ⟨⟨i + 1, hlt, by go_num, HX⟩, meas hlt (by go_num) rfl⟩
    · obtain rfl : i = n := by omega
      have hltI : ¬ (i : Int) < (i : Int) := by omega
      obtain ⟨B, c, e, hc, hR⟩ := OwnL.frRows (g := Det.cst (gat g)) HO.out HLQ.out.1 (fun t ht => (HLQ.out.2.1 t ht).1) (fun t c ht hc => (HLQ.out.2.1 t ht).2 c hc) HLQ.out.2.2 hn0
      have HR := Lib.hid hR
      cases e
      clear hR HO
      go_wp2
      go_ret
      exact ⟨⟨_, _, _, rfl, hc, HR.out⟩, hBr⟩
end Go.Proofs.YtbmaffijncapiaaGreatDoor

/- The reference: first: the first row from one on that has something in a column. -/
namespace Go.Proofs.YtbmaffijncapiaaGreatDoor
open Num
open Go.ChangeShapes Go.WideShapes Go.ChangeAt Go.RowKit
set_option linter.unusedVariables false
set_option linter.unusedSimpArgs false
attribute [local go_sem ↓] Go.wp_at_zero Go.wp_at_succ
theorem frQ_step {g : Det.M} {j n i : Nat} (hi : i < n) (h : g i j = 0) : Det.frQ g j (n - (i + 1)) (i + 1) = Det.frQ g j (n - i) i := by
  rw [show n - i = (n - (i + 1)) + 1 by omega, Det.frQ, if_pos h]
theorem frQ_stop {g : Det.M} {j n i : Nat} (hi : i < n) (h : g i j ≠ 0) : Det.frQ g j (n - i) i = i := by 
  rw [show n - i = (n - (i + 1)) + 1 by omega, Det.frQ, if_neg h]
theorem sign_nz {q : Rat} (h : q ≠ 0) : q.num.sign ≠ 0 := fun e => h (Rat.num_eq_zero.1 (Int.sign_eq_zero_iff_zero.1 e))
set_option maxRecDepth 100000 in
set_option maxHeartbeats 8000000 in
theorem first_c (base top B n m row col bc : Nat) (bs : Nat → Nat) (g : Det.M) (w : World) (h : FrRows base top B n m w bs g) (hr : row ≤ n) (hc : col < m) (hbc : n ≤ bc) (hn : n ≤ 65536) :
    Calls Tryz.prog 151 #[.slice (some ⟨B, 0, none⟩) n bc, .int .i64 (row : Nat), .int .i64 (col : Nat)] w fun e w' => e = .returned (.int .i64 (Det.frQ g col (n - row) row : Nat)) ∧ Below w.heap.size w w' := by
  have HR := Lib.hid h
  obtain ⟨F, hF⟩ : ∃ F, Det.frQ g col (n - row) row = F := ⟨_, rfl⟩
  have HF := Lib.hid hF
  rw [hF]
  clear h hF
  have hB := Below.refl w.heap.size w
  have hcI : (col : Int) < (m : Int) := by omega
  go_enter Tryz.func151, Tryz.ntmps151
  go_wp2
  go_loopw [1] (fun x wr => ∃ i : Nat, i ≤ n ∧ x = .int .i64 i ∧ Hid (Det.frQ g col (n - i) i = F) ∧ Below w.heap.size w wr) (fun x _ => n - (intOf x).toNat)
  case atStart => exact ⟨row, hr, rfl, HF, hB⟩
  case round =>
    obtain ⟨i, hi, rfl, HFi, hBr⟩ := hrel
    by_cases hlt : i < n
    · have hiI : (i : Int) < (n : Int) := by omega
      have HRr := Lib.hid (HR.out.keep hBr)
      obtain ⟨ci, hci, hmi⟩ := HRr.out.cell i hlt
      obtain ⟨f1, z1, u1, i1, f2, z2, u2, i2, e0, e1, e2, e3, eI⟩ := (HRr.out.blk i hlt).at_ col hc
      have zB := cell_lt hci
      have ze := cell_lt e0
      have HEI := Lib.hid eI
      have hBw := Below.refl wr.heap.size wr
      have SC := Lib.hid (fun V (q : Below wr.heap.size wr V) => rqSign_c (.agg #[.bool f1, .slice z1 u1 i1, .bool f2, .slice z2 u2 i2]) (g i col) V (HEI.out.keep q))
      clear eI
      by_cases h0 : g i col = 0
      · have HST := Lib.hid (frQ_step (n := n) hlt h0)
        rw [h0, show (0 : Rat).num.sign = 0 from rfl] at SC
        rw [HFi.out] at HST
        clear h0 HEI
        go_wp2_with fail
        (with_reducible refine (SC.out _ ?_).mono ?_); (repeat (first|exact bzR _ _|exact hBw|refine bzD ?_|refine bzN ?_|refine bzS ?_|refine bzA ?_))
        rintro e w3 ⟨rfl, hb3⟩
        have hk3 : Below w.heap.size w w3 := bthen (by repeat (first|exact bzR _ _|exact hBr|refine bzD ?_|refine bzN ?_|refine bzS ?_|refine bzA ?_)) hb3
        clear SC hb3
        go_wp2
        exact ⟨⟨i + 1, hlt, by go_num, HST, hk3⟩, meas hlt (by go_num) rfl⟩
      · have hz0 := sign_nz h0
        have hFi : F = i := by rw [← HFi.out]; exact frQ_stop hlt h0
        obtain ⟨z, hz⟩ : ∃ z, (g i col).num.sign = z := ⟨_, rfl⟩
        rw [hz] at SC hz0
        have dZ : (z == 0) = false := by simpa using hz0
        subst hFi
        clear hz h0 hz0 HEI HFi
        go_wp2_with fail
        (with_reducible refine (SC.out _ ?_).mono ?_); (repeat (first|exact bzR _ _|exact hBw|refine bzD ?_|refine bzN ?_|refine bzS ?_|refine bzA ?_))
        rintro e w3 ⟨rfl, hb3⟩
        have hk3 : Below w.heap.size w w3 := bthen (by repeat (first|exact bzR _ _|exact hBr|refine bzD ?_|refine bzN ?_|refine bzS ?_|refine bzA ?_)) hb3
        clear SC hb3
        go_wp2
        go_ret
        exact ⟨rfl, hk3⟩
    · obtain rfl : i = n := by omega
      have hiI : ¬ (i : Int) < (i : Int) := by omega
      have hFi : F = i := by rw [← HFi.out, Nat.sub_self]; rfl
      subst hFi
      clear HFi
      go_wp2
      go_ret
      exact ⟨rfl, hBr⟩
theorem FrRows.retop {base top top' B n m : Nat} {w : World} {bs : Nat → Nat} {g : Det.M} (h : FrRows base top B n m w bs g) (h1 : B < top') (h2 : ∀ i, i < n → bs i < top') : FrRows base top' B n m w bs g :=
  ⟨h.tB, h.lo, h1, h.fB, h.cell, h.lob, h2, h.inj, h.blk⟩
theorem clearR_c (base top B n m row col K bc : Nat) (bs : Nat → Nat) (g : Det.M) (w : World) (h : FrRows base top B n m w bs g) (hr : row < n) (hc : col < m) (hp : g row col ≠ 0) (hb : BdR n m K g) (hK : K ≤ 4000000000) (hn : n ≤ 65536) (hm : m ≤ 65536) (hbc : n ≤ bc) :
    Calls Tryz.prog 154 #[.slice (some ⟨B, 0, none⟩) n bc, .int .i64 (row : Nat), .int .i64 (col : Nat)] w fun e w' => e = .returned (.tuple #[]) ∧ FrRows base top B n m w' bs (Det.clr g row col) ∧ Out (fun q => ∃ r, r < n ∧ q = bs r) w w' :=
  (clearQ_c base w.heap.size B n m row col K bc bs g w (h.retop (typ_lt h.tB) (fun i hi => typ_lt (h.blk i hi).ty)) hr hc hp hb hK (Nat.le_refl _) hn hm hbc).mono fun e w' ⟨h1, h2, h3⟩ => ⟨h1, h2.retop h.hi h.hib, h3⟩
end Go.Proofs.YtbmaffijncapiaaGreatDoor

/- The reference: Det, by fractions. -/
namespace Go.Proofs.YtbmaffijncapiaaGreatDoor
open Num
open Go.ChangeShapes Go.WideShapes Go.ChangeAt Go.RowKit
set_option linter.unusedVariables false
set_option linter.unusedSimpArgs false
attribute [local go_sem ↓] Go.wp_at_zero Go.wp_at_succ
structure JdS (w : World) (db base top B n m : Nat) (wr : World) (s : Det.JS) : Prop where
  bel : Below w.heap.size w wr
  r : wr.cell? ⟨w.heap.size, 0, none⟩ = some (.bool false) ∧ wr.cell? ⟨w.heap.size, 1, none⟩ = some (.slice none 0 0) ∧ wr.frozen? ⟨w.heap.size, 0, none⟩ = false ∧ wr.frozen? ⟨w.heap.size, 1, none⟩ = false
  rt : typOf wr w.heap.size = some 56
  rows : ∃ bs, FrRows base top B n m wr bs s.l
  d : VarFr db s.d wr
section
variable {w : World} {db base top B n m : Nat} {wr w' w7 : World} {s : Det.JS}
theorem VarFr.keep {ub : Nat} {q : Rat} (h : VarFr ub q w) (k : Below w.heap.size w w') : VarFr ub q w' := FrBlk.keep frk_ref h k
theorem VarFr.outX {X : Nat → Prop} {ub : Nat} {q : Rat} (h : VarFr ub q w) (ho : Out X w w') (hx : ¬ X ub) (hl : Lim w w') : VarFr ub q w' := FrBlk.out frk_ref h ho hx hl
theorem VarFr.put {ub : Nat} {q z : Rat} {n1 n2 : Bool} {a1 a2 : Option Addr} {l1 c1 l2 c2 : Nat} (h : VarFr ub q w) (hv : IsQR w (.agg #[.bool n1, .slice a1 l1 c1, .bool n2, .slice a2 l2 c2]) z) :
    VarFr ub z ((((w.setCell ⟨ub, 0, none⟩ (.bool n1)).setCell ⟨ub, 1, none⟩ (.slice a1 l1 c1)).setCell ⟨ub, 2, none⟩ (.bool n2)).setCell ⟨ub, 3, none⟩ (.slice a2 l2 c2)) :=
  (FrBlk.put frk_ref h (k := 0) (by omega) hv).congr fun k hk => by rw [if_pos (by omega)]
theorem JdS.keep (h : JdS w db base top B n m wr s) (k : Below wr.heap.size wr w') : JdS w db base top B n m w' s :=
  ⟨bthen h.bel k, ⟨bkeep k h.r.1, bkeep k h.r.2.1, bkeepf k h.r.1 h.r.2.2.1, bkeepf k h.r.2.1 h.r.2.2.2⟩, typ_keep h.rt k, by obtain ⟨bs, hb⟩ := h.rows; exact ⟨bs, hb.keep k⟩, h.d.keep k⟩
theorem JdS.swap (h : JdS w db base top B n m wr s) {bs : Nat → Nat} (hr : FrRows base top B n m wr bs s.l) (hwb : w.heap.size < base) (htl : top ≤ db) {i k : Nat} (hi : i < n) (hk : k < n) {ci ck : Nat} (hci : wr.cell? ⟨B, i, none⟩ = some (.slice (some ⟨bs i, 0, none⟩) m ci)) (hck : wr.cell? ⟨B, k, none⟩ = some (.slice (some ⟨bs k, 0, none⟩) m ck)) (mi : m ≤ ci) (mk : m ≤ ck) :
    JdS w db base top B n m ((wr.setCell ⟨B, i, none⟩ (.slice (some ⟨bs k, 0, none⟩) m ck)).setCell ⟨B, k, none⟩ (.slice (some ⟨bs i, 0, none⟩) m ci)) ⟨Det.swap s.l i k, s.d⟩ := by
  have h1 := hr.lo
  have h2 := hr.hi
  have ho : Out (fun q => q = B) wr ((wr.setCell ⟨B, i, none⟩ (.slice (some ⟨bs k, 0, none⟩) m ck)).setCell ⟨B, k, none⟩ (.slice (some ⟨bs i, 0, none⟩) m ci)) := ((Out.refl (fun q => q = B) wr).set (p := ⟨B, i, none⟩) (fun _ => show B = B from rfl) _).set (p := ⟨B, k, none⟩) (fun _ => show B = B from rfl) _
  have hk0 : Kp (fun t => t ≠ 43) wr ((wr.setCell ⟨B, i, none⟩ (.slice (some ⟨bs k, 0, none⟩) m ck)).setCell ⟨B, k, none⟩ (.slice (some ⟨bs i, 0, none⟩) m ci)) := Kp.out ho (fun q t hq ht => by subst hq; rw [hr.tB] at ht; cases ht; exact fun hh => hh rfl)
  have hne : ¬ w.heap.size = B := by omega
  exact ⟨bset (bset h.bel (by show w.heap.size ≤ B; omega) _) (by show w.heap.size ≤ B; omega) _, ⟨okeep ho h.r.1 hne, okeep ho h.r.2.1 hne, okeepf ho h.r.1 h.r.2.2.1 hne, okeepf ho h.r.2.1 h.r.2.2.2 hne⟩, by rw [typ_set, typ_set]; exact h.rt, ⟨_, hr.swap hi hk hci hck mi mk⟩, h.d.outX ho (show ¬ db = B by omega) (hk0.lim (by decide))⟩
theorem JdS.rowsOut (h : JdS w db base top B n m w7 s) {bs : Nat → Nat} (hr : FrRows base top B n m w7 bs s.l) {g' : Det.M} (ho : Out (fun q => ∃ r, r < n ∧ q = bs r) w7 wr) (hr' : FrRows base top B n m wr bs g') (hwb : w.heap.size < base) (htl : top ≤ db) : JdS w db base top B n m wr ⟨g', s.d⟩ := by
  have hx : ∀ q, q ≤ w.heap.size → ¬ ∃ r, r < n ∧ q = bs r := fun q hq ⟨r, h1, h2⟩ => by have := hr.lob r h1; omega
  have hbel : Below w.heap.size w wr := h.bel.trans (ho.to_below (fun q hq _ => hx q (by omega)) h.bel.size)
  exact ⟨hbel, ⟨okeep ho h.r.1 (hx _ (Nat.le_refl _)), okeep ho h.r.2.1 (hx _ (Nat.le_refl _)), okeepf ho h.r.1 h.r.2.2.1 (hx _ (Nat.le_refl _)), okeepf ho h.r.2.1 h.r.2.2.2 (hx _ (Nat.le_refl _))⟩, by rw [typ_of_block (w := w7) (ho.block _ (typ_lt h.rt) (hx _ (Nat.le_refl _)))]; exact h.rt, ⟨bs, hr'⟩, h.d.outX ho (fun ⟨r, h1, h2⟩ => by have := hr.hib r h1; omega) (outR_lim hr ho)⟩
theorem JdS.setD (h : JdS w db base top B n m wr s) {n1 n2 : Bool} {a1 a2 : Option Addr} {l1 c1 l2 c2 : Nat} {z : Rat} (hi : IsQR wr (.agg #[.bool n1, .slice a1 l1 c1, .bool n2, .slice a2 l2 c2]) z) (hwb : w.heap.size < base) (htl : top ≤ db) (hbt : base ≤ top) :
    JdS w db base top B n m ((((wr.setCell ⟨db, 0, none⟩ (.bool n1)).setCell ⟨db, 1, none⟩ (.slice a1 l1 c1)).setCell ⟨db, 2, none⟩ (.bool n2)).setCell ⟨db, 3, none⟩ (.slice a2 l2 c2)) ⟨s.l, z⟩ := by
  obtain ⟨m1, b1, x1, d1, m2, b2, x2, d2, h0, h1, h2, h3, h4⟩ := h.d.at
  have ho : Out (fun q => q = db) wr ((((wr.setCell ⟨db, 0, none⟩ (.bool n1)).setCell ⟨db, 1, none⟩ (.slice a1 l1 c1)).setCell ⟨db, 2, none⟩ (.bool n2)).setCell ⟨db, 3, none⟩ (.slice a2 l2 c2)) := ((((Out.refl (fun q => q = db) wr).set (p := ⟨db, 0, none⟩) (fun _ => rfl) _).set (p := ⟨db, 1, none⟩) (fun _ => rfl) _).set (p := ⟨db, 2, none⟩) (fun _ => rfl) _).set (p := ⟨db, 3, none⟩) (fun _ => rfl) _
  have hl : Lim wr ((((wr.setCell ⟨db, 0, none⟩ (.bool n1)).setCell ⟨db, 1, none⟩ (.slice a1 l1 c1)).setCell ⟨db, 2, none⟩ (.bool n2)).setCell ⟨db, 3, none⟩ (.slice a2 l2 c2)) := lim_put4 h0 h1 h2 h3 _ _ _ _
  have hne : ¬ w.heap.size = db := by omega
  have hwd : w.heap.size ≤ db := by omega
  exact ⟨bset (bset (bset (bset h.bel hwd _) hwd _) hwd _) hwd _, ⟨okeep ho h.r.1 hne, okeep ho h.r.2.1 hne, okeepf ho h.r.1 h.r.2.2.1 hne, okeepf ho h.r.2.1 h.r.2.2.2 hne⟩, by rw [typ_set, typ_set, typ_set, typ_set]; exact h.rt, by obtain ⟨bs, hb⟩ := h.rows; exact ⟨bs, hb.out ho (fun q _ hq hh => by omega) hl⟩, h.d.put hi⟩
end
set_option maxRecDepth 100000 in
set_option maxHeartbeats 32000000 in
theorem rdet_c (va : Value) (g : Grid) (K : Nat) (w : World) (ha : RefM w va g) (rg : Rct g g.length) (hn : g.length ≤ 65536) (hn0 : 0 < g.length) (hK1 : 1 ≤ K) (hbd : BdM K g) (hK : kq K g.length ≤ 1000000000) :
    Calls Tryz.prog 63 #[va] w fun e w' => (∃ u, e = .returned u ∧ IsRef w' u (Det.detE g.length (gat g))) ∧ Below w.heap.size w w' := by
  have RC := Lib.hid (fun V (q : Below w.heap.size w V) => rats_c va g g.length V (ha.keep q) rg hn hn hn0 hn0)
  obtain ⟨aa, ca, rfl, -⟩ : ∃ a c, va = .slice a g.length c ∧ True := by obtain ⟨a, c, e, _⟩ := (show IsL 110 (RRow 0) 0 w va g from ha).view; exact ⟨a, c, e, trivial⟩
  have HDE := Lib.hid (Det.detE_eq g.length (gat g))
  obtain ⟨D, hD⟩ : ∃ D, Det.detE g.length (gat g) = D := ⟨_, rfl⟩
  rw [hD] at HDE ⊢
  have HBA := Lib.hid (show BdR g.length g.length K (Det.cst (gat g)) from fun r c _ _ => BdQ.whole (hbd r c) hK1)
  obtain ⟨A, hA⟩ : ∃ A, Det.cst (gat g) = A := ⟨_, rfl⟩
  rw [hA] at RC HDE HBA
  obtain ⟨n, hnE⟩ : ∃ n, g.length = n := ⟨_, rfl⟩
  rw [hnE] at RC HDE HBA hn hn0 hK ⊢
  have HJB := Lib.hid (fun t (ht : t ≤ n) s hs => jd_bd HBA.out (Nat.le_refl _) hK1 t ht s hs)
  have OC := Lib.hid (fun V => rof_c 1 V (by decide) (by decide))
  clear ha rg hbd hD hA hnE
  have hB := Below.refl w.heap.size w
  go_enter Tryz.func63, Tryz.ntmps63
  go_wp2_with fail
  (with_reducible refine (RC.out _ ?_).mono ?_); (repeat (first|exact bzR _ _|exact hB|refine bzD ?_|refine bzN ?_|refine bzS ?_|refine bzA ?_))
  unfold RatsPost
  rintro e w2 ⟨⟨B, bc, bs, rfl, hbc, hR⟩, hb2⟩
  have HT2 := Lib.hid (show typOf w2 w.heap.size = some 56 from typ_keep (typ_fresh (by simp)) hb2)
  have r0 : w2.cell? ⟨w.heap.size, 0, none⟩ = some (.bool false) := bkc hb2
  have zr0 := cell_lt r0
  have r0f : w2.frozen? ⟨w.heap.size, 0, none⟩ = false := bkcf (v := .bool false) hb2
  have r1 : w2.cell? ⟨w.heap.size, 1, none⟩ = some (.slice none 0 0) := bkc hb2
  have r1f : w2.frozen? ⟨w.heap.size, 1, none⟩ = false := bkcf (v := .slice none 0 0) hb2
  have hB : Below w.heap.size w w2 := bthen (by repeat (first|exact bzR _ _|exact hB|refine bzD ?_|refine bzN ?_|refine bzS ?_|refine bzA ?_)) hb2
  have hz : w.heap.size ≤ w2.heap.size := hB.size
  have HR2 := Lib.hid hR
  have HB2 := Lib.hid (And.intro hB (And.intro r0 (And.intro r1 (And.intro r0f r1f))))
  have hbt := hb2.size
  obtain ⟨base, hbase⟩ : ∃ b, (w.alloc (.cells #[.bool false, .slice none 0 0] 56)).heap.size = b := ⟨_, rfl⟩
  have hwb : w.heap.size < base := by rw [← hbase]; simp
  rw [hbase] at HR2 hbt
  have hBw2 := Below.refl w2.heap.size w2
  clear RC hR hb2 r0 r1 r0f r1f hB zr0 hz hbase
  go_wp2_with fail
  (with_reducible refine (OC.out _).mono ?_)
  rintro e w3 ⟨⟨u3, rfl, hu3⟩, hb3⟩
  have hb3' : Below w2.heap.size w2 w3 := bthen (by repeat (first|exact bzR _ _|exact hBw2|refine bzD ?_|refine bzN ?_|refine bzS ?_|refine bzA ?_)) hb3
  have WC := Lib.hid (fun V (q : Below w3.heap.size w3 V) => rqWhole_c u3 1 V (hu3.keep q))
  have hBw3 := Below.refl w3.heap.size w3
  obtain ⟨nn, na, nl, nc, rfl⟩ := hu3.litR
  clear OC hu3 hb3
  go_wp2_with fail
  (with_reducible refine (WC.out _ ?_).mono ?_); (repeat (first|exact bzR _ _|exact hBw3|refine bzD ?_|refine bzN ?_|refine bzS ?_|refine bzA ?_))
  rintro e w4 ⟨⟨v4, rfl, hv4⟩, hb4⟩
  have hb4' : Below w2.heap.size w2 w4 := bthen hb3' (bthen (by repeat (first|exact bzR _ _|exact hBw3|refine bzD ?_|refine bzN ?_|refine bzS ?_|refine bzA ?_)) hb4)
  have HV4 := Lib.hid hv4
  obtain ⟨m1, b1, k1, d1, m2, b2, k2, d2, rfl, -, -⟩ := hv4
  have hBw4 := Below.refl w4.heap.size w4
  clear WC hb4 hb3' hBw3 hBw2
  go_wp2
  refine wp_name fun w5 hW5 => ?_
  have hb5 : Below w4.heap.size w4 w5 := by rw [hW5]; repeat (first|exact bzR _ _|exact hBw4|refine bzD ?_|refine bzN ?_|refine bzS ?_|refine bzA ?_)
  have HV5 := Lib.hid (show VarFr w4.heap.size 1 w5 from by rw [hW5]; exact VarFr.new rfl HV4.out)
  have hb5' := bthen hb4' hb5
  have htl : w2.heap.size ≤ w4.heap.size := hb4'.size
  have H0 := Lib.hid (show JdS w w4.heap.size base w2.heap.size B n n w5 ⟨A, 1⟩ from ⟨bthen HB2.out.1 hb5', ⟨bkeep hb5' HB2.out.2.1, bkeep hb5' HB2.out.2.2.1, bkeepf hb5' HB2.out.2.1 HB2.out.2.2.2.1, bkeepf hb5' HB2.out.2.2.1 HB2.out.2.2.2.2⟩, typ_keep HT2.out hb5', ⟨_, HR2.out.keep hb5'⟩, HV5.out⟩)
  obtain ⟨top, htop⟩ : ∃ b, w2.heap.size = b := ⟨_, rfl⟩
  obtain ⟨db, hdb⟩ : ∃ b, w4.heap.size = b := ⟨_, rfl⟩
  rw [htop, hdb] at H0 htl
  rw [htop] at hbt
  rw [hdb]
  clear hW5 HV4 HV5 HB2 HR2 HT2 hb5 hb5' hb4' hBw4 htop hdb
  go_loopw [5] (fun x wr => ∃ j : Nat, j ≤ n ∧ x = .int .i64 j ∧ Hid (∃ s, Det.jdR n A j = some s ∧ JdS w db base top B n n wr s)) (fun x _ => n - (intOf x).toNat)
  case atStart => exact ⟨0, Nat.zero_le _, rfl, Lib.hid ⟨_, rfl, H0.out⟩⟩
  case round =>
    obtain ⟨j, hj, rfl, hrel⟩ := hrel
    obtain ⟨s, hs, hS⟩ := hrel.out
    have HSt := Lib.hid hs
    have HS := Lib.hid hS
    clear hrel hs hS
    by_cases hlt : j < n
    · have hltI : (j : Int) < (n : Int) := by omega
      obtain ⟨bs', hr⟩ := HS.out.rows
      have hBw := Below.refl wr.heap.size wr
      have FC := Lib.hid (fun V (q : Below wr.heap.size wr V) => first_c base top B n n j j bc bs' s.l V (hr.keep q) (by omega) hlt hbc hn)
      have hge := Det.frQ_ge s.l j (n - j) j
      have hat := Det.frQ_at s.l j (n - j) j
      obtain ⟨i, hi⟩ : ∃ i, Det.frQ s.l j (n - j) j = i := ⟨_, rfl⟩
      have HI := Lib.hid hi
      rw [hi] at FC hge hat
      have HAT := Lib.hid hat
      have hjb := HJB.out j hj s HSt.out
      have HBD := Lib.hid hjb
      have hKj : kq K (j + 1) ≤ 1000000000 := Nat.le_trans (kq_mono K (by omega)) hK
      rw [kq_succ] at hKj
      have hij : j ≤ i := hge.1
      have hin' : i ≤ n := by omega
      clear hr hi hge hat hjb
      go_wp2_with fail
      (with_reducible refine (FC.out _ ?_).mono ?_); (repeat (first|exact bzR _ _|exact hBw|refine bzD ?_|refine bzN ?_|refine bzS ?_|refine bzA ?_))
      rintro e w3 ⟨rfl, hb3⟩
      have hk3 : Below wr.heap.size wr w3 := bthen (by repeat (first|exact bzR _ _|exact hBw|refine bzD ?_|refine bzN ?_|refine bzS ?_|refine bzA ?_)) hb3
      have HS3 := Lib.hid (HS.out.keep hk3)
      clear FC hb3 hk3 HS hBw
      by_cases hin : i = n
      · have hDz : D = 0 := by
          have := Det.jd_none (n := n) (a := A) hlt HSt.out (by rw [HI.out]; exact hin)
          rw [← HDE.out] at this
          exact_mod_cast this
        subst hDz
        obtain ⟨r0, r1, r0f, r1f⟩ := HS3.out.r
        have hBf := HS3.out.bel
        have zr := cell_lt r0
        have dI : ((i : Int) == (n : Int)) = true := by simp [hin]
        clear HI HAT hin
        go_wp2
        refine bodyPost_ret (v := .agg #[.bool false, .slice none 0 0]) (by simp [results, Tryz.results63, go_sem, *]) rfl ⟨⟨_, rfl, isRef_zero _⟩, ?_⟩
        repeat (first|exact bzR _ _|exact hBf|refine bzD ?_|refine bzN ?_|refine bzS ?_|refine bzA ?_)
      · have hin2 : i < n := by omega
        have hp : s.l i j ≠ 0 := HAT.out (by omega)
        have HNX : Hid (Det.jdR n A (j + 1) = some (Det.jdNext s i j)) := Lib.hid (by
          unfold Det.jdR
          rw [HSt.out, Option.bind_some, HI.out, if_neg hin])
        have dI : ((i : Int) == (n : Int)) = false := by simpa using (show ¬ (i : Int) = (n : Int) by omega)
        by_cases hie : i = j
        · have hie' := hie.symm
          subst hie'
          clear hie
          have dN : ((j : Int) != (j : Int)) = false := by simp
          unfold Det.jdNext at HNX
          rw [if_pos rfl, Det.swap_self] at HNX
          obtain ⟨w6, hw6⟩ : ∃ w6, w3 = w6 := ⟨_, rfl⟩
          obtain ⟨L6, hL6⟩ : ∃ x, s.l = x := ⟨_, rfl⟩
          obtain ⟨d6, hd6⟩ : ∃ x, s.d = x := ⟨_, rfl⟩
          have HS6 := Lib.hid (show JdS w db base top B n n w6 ⟨L6, d6⟩ from by rw [← hw6, ← hL6, ← hd6]; exact HS3.out)
          rw [hL6, hd6] at HNX HBD
          rw [hL6] at hp
          have HBD6 := HBD
          have HP6 := Lib.hid hp
          rw [hw6]
          clear HS3 HI HAT HBD HSt hp hw6 hL6 hd6 hin
          go_upto_region 12 with (fail)
          obtain ⟨bs6, hr6⟩ := HS6.out.rows
          have HR6 := Lib.hid hr6
          obtain ⟨cj, hcj, hmj⟩ := hr6.cell j hlt
          obtain ⟨v1, y1, s1, t1, v2, y2, s2, t2, q0, q1, q2, q3, qI⟩ := HS6.out.d.at
          obtain ⟨f1, z1, u1, i1, f2, z2, u2, i2, e0, e1, e2, e3, eI⟩ := (hr6.blk j hlt).at_ j hlt
          have HQI := Lib.hid qI
          have HEI := Lib.hid eI
          have hfr := HS6.out.d.fr.2
          have MC := Lib.hid (fun V (q : Below w6.heap.size w6 V) => rqMul_c (.agg #[.bool v1, .slice y1 s1 t1, .bool v2, .slice y2 s2 t2]) (.agg #[.bool f1, .slice z1 u1 i1, .bool f2, .slice z2 u2 i2]) d6 (L6 j j) (kq K j + 1) (kq K j) V (HQI.out.keep q) (HEI.out.keep q) HBD6.out.2 (HBD6.out.1 j j hlt hlt) (by omega) rfl)
          have HSC := Lib.hid (show ∀ V, Below w6.heap.size w6 V → V.cell? ⟨B, j, none⟩ = some (.slice (some ⟨bs6 j, 0, none⟩) n cj) ∧ (V.cell? ⟨bs6 j, j * 4, none⟩ = some (.bool f1) ∧ V.cell? ⟨bs6 j, j * 4 + 1, none⟩ = some (.slice z1 u1 i1) ∧ V.cell? ⟨bs6 j, j * 4 + 2, none⟩ = some (.bool f2) ∧ V.cell? ⟨bs6 j, j * 4 + 3, none⟩ = some (.slice z2 u2 i2)) ∧ (V.cell? ⟨db, 0, none⟩ = some (.bool v1) ∧ V.cell? ⟨db, 1, none⟩ = some (.slice y1 s1 t1) ∧ V.cell? ⟨db, 2, none⟩ = some (.bool v2) ∧ V.cell? ⟨db, 3, none⟩ = some (.slice y2 s2 t2)) ∧ (V.frozen? ⟨db, 0, none⟩ = false ∧ V.frozen? ⟨db, 1, none⟩ = false ∧ V.frozen? ⟨db, 2, none⟩ = false ∧ V.frozen? ⟨db, 3, none⟩ = false) from fun V q => ⟨bkeep q hcj, ⟨bkeep q e0, bkeep q e1, bkeep q e2, bkeep q e3⟩, ⟨bkeep q q0, bkeep q q1, bkeep q q2, bkeep q q3⟩, ⟨bkeepf q q0 (hfr _), bkeepf q q1 (hfr _), bkeepf q q2 (hfr _), bkeepf q q3 (hfr _)⟩⟩)
          have ze := cell_lt e0
          have zq := cell_lt q0
          have zB := cell_lt hcj
          have hBw := Below.refl w6.heap.size w6
          clear qI eI hfr hr6
          go_region_law (go_simp; go_wp2_with (first
            | (go_at_call 153; (with_reducible refine (MC.out _ ?_).mono ?_); (repeat (first|exact bzR _ _|exact hBw|refine bzD ?_|refine bzN ?_|refine bzS ?_|refine bzA ?_)); rintro e w7 ⟨⟨u7, rfl, hu7⟩, hb7⟩; (have hBd : Below w6.heap.size w6 w7 := bthen (by repeat (first|exact bzR _ _|exact hBw|refine bzD ?_|refine bzN ?_|refine bzS ?_|refine bzA ?_)) hb7; clear hBw; have hBw := hBd; clear hBd); obtain ⟨hcj, ⟨e0, e1, e2, e3⟩, ⟨q0, q1, q2, q3⟩, ⟨q0f, q1f, q2f, q3f⟩⟩ := HSC.out w7 hBw; have ze7 := cell_lt e0; have zq7 := cell_lt q0; have zB7 := cell_lt hcj; have HU := Lib.hid hu7; obtain ⟨nn1, aa1, ll1, cc1, nn2, aa2, ll2, cc2, rfl, -, -⟩ := hu7)
            | fail))
          all_goals
            have HS7 := Lib.hid ((HS6.out.keep hBw).setD HU.out hwb htl hbt)
            obtain ⟨bs8, hr8⟩ := HS7.out.rows
            have HR8 := Lib.hid hr8
            have CC := Lib.hid (fun V (h : FrRows base top B n n V bs8 L6) => clearR_c base top B n n j j (kq K j) bc bs8 L6 V h hlt hlt HP6.out HBD6.out.1 (by omega) hn hn hbc)
            clear MC HSC hcj e0 e1 e2 e3 q0 q1 q2 q3 q0f q1f q2f q3f HU hr8 HS6 HR6 HQI HEI
            go_wp2_with fail
            refine (CC.out _ ?_).mono ?_
            · first | exact HR8.out | exact HR8.out.keep (Below.refl _ _).drew
            rintro e w9 ⟨rfl, hr9, ho9⟩
            have HS9 := Lib.hid (show JdS w db base top B n n w9 ⟨Det.clr L6 j j, d6 * L6 j j⟩ from by
              first
              | exact HS7.out.rowsOut HR8.out ho9 hr9 hwb htl
              | exact (HS7.out.keep (Below.refl _ _).drew).rowsOut (HR8.out.keep (Below.refl _ _).drew) ho9 hr9 hwb htl)
            clear CC HS7 HR8 ho9 hr9
            go_wp2
            exact ⟨⟨j + 1, hlt, by go_num, Lib.hid ⟨_, HNX.out, HS9.out⟩⟩, meas hlt (by go_num) rfl⟩
        · have dN : ((i : Int) != (j : Int)) = true := by simp; omega
          obtain ⟨bs4, hr4⟩ := HS3.out.rows
          obtain ⟨ci, hci, hmi⟩ := hr4.cell i hin2
          obtain ⟨cj, hcj, hmj⟩ := hr4.cell j hlt
          have hfi := hr4.fB.2 i
          have hfk := hr4.fB.2 j
          have zB := cell_lt hci
          have hiI : (i : Int) < (n : Int) := by omega
          have HSW := Lib.hid (HS3.out.swap hr4 hwb htl hin2 hlt hci hcj hmi hmj)
          have HBS := Lib.hid (And.intro (HBD.out.1.swap hin2 hlt) HBD.out.2.neg)
          have HPP := Lib.hid (show Det.swap s.l i j j j ≠ 0 by rw [Det.swap_piv]; exact hp)
          unfold Det.jdNext at HNX
          rw [if_neg hie] at HNX
          obtain ⟨L6, hL6⟩ : ∃ x, Det.swap s.l i j = x := ⟨_, rfl⟩
          rw [hL6] at HSW HBS HPP HNX
          clear HI HAT HBD HSt hp hL6 hin hr4 HS3
          go_wp2
          go_region
          all_goals
            have hdr := (Below.refl ((w3.setCell ⟨B, i, none⟩ (.slice (some ⟨bs4 j, 0, none⟩) n cj)).setCell ⟨B, j, none⟩ (.slice (some ⟨bs4 i, 0, none⟩) n ci)).heap.size ((w3.setCell ⟨B, i, none⟩ (.slice (some ⟨bs4 j, 0, none⟩) n cj)).setCell ⟨B, j, none⟩ (.slice (some ⟨bs4 i, 0, none⟩) n ci))).drew
            have HS5 := Lib.hid (HSW.out.keep hdr)
            obtain ⟨w5, hw5⟩ : ∃ w5, ((w3.setCell ⟨B, i, none⟩ (.slice (some ⟨bs4 j, 0, none⟩) n cj)).setCell ⟨B, j, none⟩ (.slice (some ⟨bs4 i, 0, none⟩) n ci)).drew = w5 := ⟨_, rfl⟩
            rw [hw5] at HS5 ⊢
            obtain ⟨v1, y1, s1, t1, v2, y2, s2, t2, q0, q1, q2, q3, qI⟩ := HS5.out.d.at
            have hfr := HS5.out.d.fr.2
            have HQI := Lib.hid qI
            obtain ⟨d5, hd5⟩ : ∃ x, s.d = x := ⟨_, rfl⟩
            rw [hd5] at HS5 HQI HBS HNX
            have NC := Lib.hid (fun V (q : Below w5.heap.size w5 V) => rqNeg_c (.agg #[.bool v1, .slice y1 s1 t1, .bool v2, .slice y2 s2 t2]) d5 V (HQI.out.keep q))
            have zq := cell_lt q0
            have hBw5 := Below.refl w5.heap.size w5
            clear qI hdr hw5 HSW hci hcj hmi hmj hfi hfk zB hd5
            go_wp2_with fail
            (with_reducible refine (NC.out _ ?_).mono ?_); (repeat (first|exact bzR _ _|exact hBw5|refine bzD ?_|refine bzN ?_|refine bzS ?_|refine bzA ?_))
            rintro e w7 ⟨⟨u7, rfl, hu7⟩, hb7⟩
            have hk7 : Below w5.heap.size w5 w7 := bthen (by repeat (first|exact bzR _ _|exact hBw5|refine bzD ?_|refine bzN ?_|refine bzS ?_|refine bzA ?_)) hb7
            have HU7 := Lib.hid hu7
            obtain ⟨nn1, aa1, ll1, cc1, nn2, aa2, ll2, cc2, rfl, -, -⟩ := hu7
            have q0f := bkeepf hk7 q0 (hfr _)
            have q1f := bkeepf hk7 q1 (hfr _)
            have q2f := bkeepf hk7 q2 (hfr _)
            have q3f := bkeepf hk7 q3 (hfr _)
            replace q0 := bkeep hk7 q0
            replace q1 := bkeep hk7 q1
            replace q2 := bkeep hk7 q2
            replace q3 := bkeep hk7 q3
            have zq7 := cell_lt q0
            have HSN := Lib.hid ((HS5.out.keep hk7).setD HU7.out hwb htl hbt)
            clear NC hb7 hk7 HS5 HQI hfr HU7 hBw5
            go_upto_region 12 with (fail)
            refine wp_name fun w6 hW6 => ?_
            obtain ⟨d6, hd6⟩ : ∃ x, -d5 = x := ⟨_, rfl⟩
            rw [hd6] at HSN HBS HNX
            have HS6 := Lib.hid (show JdS w db base top B n n w6 ⟨L6, d6⟩ from by rw [hW6]; first | exact HSN.out | exact HSN.out.keep (Below.refl _ _).drew)
            have HP6 := HPP
            have HBD6 := HBS
            clear hW6 HSN HPP HBS q0 q1 q2 q3 q0f q1f q2f q3f zq zq7 hd6
            obtain ⟨bs6, hr6⟩ := HS6.out.rows
            have HR6 := Lib.hid hr6
            obtain ⟨cj, hcj, hmj⟩ := hr6.cell j hlt
            obtain ⟨v1, y1, s1, t1, v2, y2, s2, t2, q0, q1, q2, q3, qI⟩ := HS6.out.d.at
            obtain ⟨f1, z1, u1, i1, f2, z2, u2, i2, e0, e1, e2, e3, eI⟩ := (hr6.blk j hlt).at_ j hlt
            have HQI := Lib.hid qI
            have HEI := Lib.hid eI
            have hfr := HS6.out.d.fr.2
            have MC := Lib.hid (fun V (q : Below w6.heap.size w6 V) => rqMul_c (.agg #[.bool v1, .slice y1 s1 t1, .bool v2, .slice y2 s2 t2]) (.agg #[.bool f1, .slice z1 u1 i1, .bool f2, .slice z2 u2 i2]) d6 (L6 j j) (kq K j + 1) (kq K j) V (HQI.out.keep q) (HEI.out.keep q) HBD6.out.2 (HBD6.out.1 j j hlt hlt) (by omega) rfl)
            have HSC := Lib.hid (show ∀ V, Below w6.heap.size w6 V → V.cell? ⟨B, j, none⟩ = some (.slice (some ⟨bs6 j, 0, none⟩) n cj) ∧ (V.cell? ⟨bs6 j, j * 4, none⟩ = some (.bool f1) ∧ V.cell? ⟨bs6 j, j * 4 + 1, none⟩ = some (.slice z1 u1 i1) ∧ V.cell? ⟨bs6 j, j * 4 + 2, none⟩ = some (.bool f2) ∧ V.cell? ⟨bs6 j, j * 4 + 3, none⟩ = some (.slice z2 u2 i2)) ∧ (V.cell? ⟨db, 0, none⟩ = some (.bool v1) ∧ V.cell? ⟨db, 1, none⟩ = some (.slice y1 s1 t1) ∧ V.cell? ⟨db, 2, none⟩ = some (.bool v2) ∧ V.cell? ⟨db, 3, none⟩ = some (.slice y2 s2 t2)) ∧ (V.frozen? ⟨db, 0, none⟩ = false ∧ V.frozen? ⟨db, 1, none⟩ = false ∧ V.frozen? ⟨db, 2, none⟩ = false ∧ V.frozen? ⟨db, 3, none⟩ = false) from fun V q => ⟨bkeep q hcj, ⟨bkeep q e0, bkeep q e1, bkeep q e2, bkeep q e3⟩, ⟨bkeep q q0, bkeep q q1, bkeep q q2, bkeep q q3⟩, ⟨bkeepf q q0 (hfr _), bkeepf q q1 (hfr _), bkeepf q q2 (hfr _), bkeepf q q3 (hfr _)⟩⟩)
            have ze := cell_lt e0
            have zq := cell_lt q0
            have zB := cell_lt hcj
            have hBw := Below.refl w6.heap.size w6
            clear qI eI hfr hr6
            go_region_law (go_simp; go_wp2_with (first
              | (go_at_call 153; (with_reducible refine (MC.out _ ?_).mono ?_); (repeat (first|exact bzR _ _|exact hBw|refine bzD ?_|refine bzN ?_|refine bzS ?_|refine bzA ?_)); rintro e w7 ⟨⟨u7, rfl, hu7⟩, hb7⟩; (have hBd : Below w6.heap.size w6 w7 := bthen (by repeat (first|exact bzR _ _|exact hBw|refine bzD ?_|refine bzN ?_|refine bzS ?_|refine bzA ?_)) hb7; clear hBw; have hBw := hBd; clear hBd); obtain ⟨hcj, ⟨e0, e1, e2, e3⟩, ⟨q0, q1, q2, q3⟩, ⟨q0f, q1f, q2f, q3f⟩⟩ := HSC.out w7 hBw; have ze7 := cell_lt e0; have zq7 := cell_lt q0; have zB7 := cell_lt hcj; have HU := Lib.hid hu7; obtain ⟨nn1, aa1, ll1, cc1, nn2, aa2, ll2, cc2, rfl, -, -⟩ := hu7)
              | fail))
            all_goals
              have HS7 := Lib.hid ((HS6.out.keep hBw).setD HU.out hwb htl hbt)
              obtain ⟨bs8, hr8⟩ := HS7.out.rows
              have HR8 := Lib.hid hr8
              have CC := Lib.hid (fun V (h : FrRows base top B n n V bs8 L6) => clearR_c base top B n n j j (kq K j) bc bs8 L6 V h hlt hlt HP6.out HBD6.out.1 (by omega) hn hn hbc)
              clear MC HSC hcj e0 e1 e2 e3 q0 q1 q2 q3 q0f q1f q2f q3f HU hr8 HS6 HR6 HQI HEI
              go_wp2_with fail
              refine (CC.out _ ?_).mono ?_
              · first | exact HR8.out | exact HR8.out.keep (Below.refl _ _).drew
              rintro e w9 ⟨rfl, hr9, ho9⟩
              have HS9 := Lib.hid (show JdS w db base top B n n w9 ⟨Det.clr L6 j j, d6 * L6 j j⟩ from by
                first
                | exact HS7.out.rowsOut HR8.out ho9 hr9 hwb htl
                | exact (HS7.out.keep (Below.refl _ _).drew).rowsOut (HR8.out.keep (Below.refl _ _).drew) ho9 hr9 hwb htl)
              clear CC HS7 HR8 ho9 hr9
              go_wp2
              exact ⟨⟨j + 1, hlt, by go_num, Lib.hid ⟨_, HNX.out, HS9.out⟩⟩, meas hlt (by go_num) rfl⟩
    · obtain rfl : j = n := by omega
      have hltI : ¬ (j : Int) < (j : Int) := by omega
      have hd : s.d = (D : Rat) := by rw [HDE.out, Det.jd_end HSt.out]
      obtain ⟨v1, y1, s1, t1, v2, y2, s2, t2, q0, q1, q2, q3, qI⟩ := HS.out.d.at
      obtain ⟨r0, r1, r0f, r1f⟩ := HS.out.r
      obtain ⟨n1, a1, l1, c1, n2, a2, l2, c2, e, hN, hDn⟩ := qI
      cases e
      rw [hd, (whole_num D).1] at hN
      have HN := Lib.hid (hN.put2 r0 r1 (.bool v1) (.slice y1 s1 t1))
      have hBf := HS.out.bel
      have zr := cell_lt r0
      have zq := cell_lt q0
      clear hN hDn hd HSt HS
      go_wp2
      refine bodyPost_ret (v := .agg #[.bool v1, .slice y1 s1 t1]) (by simp [results, Tryz.results63, go_sem, *]) rfl ⟨⟨_, rfl, HN.out⟩, ?_⟩
      repeat (first|exact bzR _ _|exact hBf|refine bzD ?_|refine bzN ?_|refine bzS ?_|refine bzA ?_)
end Go.Proofs.YtbmaffijncapiaaGreatDoor

