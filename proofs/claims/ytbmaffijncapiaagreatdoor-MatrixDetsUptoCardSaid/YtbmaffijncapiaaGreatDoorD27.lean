/- Texts of this seat, laid together: PvD, SeqI, QrA, MwL. Each opens with its own remark, which says what it proves, and under which conditions. -/
import Derived.Test.YtbmaffijncapiaaGreatDoorD26
import Derived.Test.YtbmaffijncapiaaGreatDoorD03
import Derived.Test.YtbmaffijncapiaaGreatDoorD19
import Derived.Test.YtbmaffijncapiaaGreatDoorD15
set_option linter.unusedVariables false
set_option linter.unusedSimpArgs false
/- matrix: what Pivots' iterator tells, to bodies that write blocks of their own. -/
namespace Go.Proofs.YtbmaffijncapiaaGreatDoor
open Num
open Go.ChangeShapes Go.WideShapes Go.ChangeAt Go.RowKit
set_option linter.unusedVariables false
set_option linter.unusedSimpArgs false
attribute [local go_sem ↓] Go.wp_at_zero Go.wp_at_succ
theorem outOth {X : Nat → Prop} {a b : World} (h : Out X a b) (hx : ∀ q, X q → q < a.heap.size → ∃ o : Obj, a.heap[q]? = some o ∧ o.isCells = true) : KeepsOthers a b :=
  ⟨h.size, fun k o hk ho => by
    have hl := (Array.getElem?_eq_some_iff.1 hk).1
    rw [h.block k hl (fun hX => by
      obtain ⟨o', ho', hc⟩ := hx k hX hl
      rw [hk] at ho'; cases ho'; rw [ho] at hc; cases hc)]
    exact hk⟩
theorem othersB {W W' : World} (h : Below W.heap.size W W') : KeepsOthers W W' := outOth (Out.of_below (fun _ => False) h) fun _ h => h.elim
structure PivIn (B K : Nat) (g : Grid) (a : Option Addr) (cp : Nat) (W : World) : Prop where
  m : IsM 0 W (.agg #[.slice a g.length cp]) g
  c : W.cell? ⟨B, 0, none⟩ = some (.slice a g.length cp)
  rg : Rct g (cols g)
  hn : g.length ≤ 65536
  hcl : cols g ≤ 65536
  hp0 : 0 < g.length → 0 < cols g
  hK1 : 1 ≤ K
  hbd : BdM K g
  hK : kb K (cols g) ≤ 4294967296
def APv (L : List Nat) (k : Nat) (args : Array Value) (X : World) : Prop := args = #[.int .i64 (L.getD k 0 : Nat)]
set_option maxRecDepth 100000 in
set_option maxHeartbeats 8000000 in
theorem pivs_iterD (n0 B K : Nat) (S0 : Nat → Prop) (g : Grid) (a : Option Addr) (cp : Nat) :
    IterD Tryz.prog 155 #[.pointer (some ⟨B, 0, none⟩)] (APv (pivL g)) (pivL g).length (fun _ _ => False) n0 S0 (PivIn B K g a cp) := by
  intro l J Jx W hG hJ hJx hJS hY h0
  obtain ⟨hv, hm, rg, hn, hcl, hp0, hK1, hbd, hK⟩ := hG
  refine callsIn_wide.2 ?_
  show Calls Tryz.prog 155 #[.func (.yield l) #[] #[], .pointer (some ⟨B, 0, none⟩)] W _
  have hz0 : g.length = 0 → cols g = 0 := fun h => by rw [List.length_eq_zero_iff.1 h]; rfl
  have EC := Lib.hid (fun V (q : Below W.heap.size W V) => (show Calls Tryz.prog 156 #[.slice a g.length cp, .int .i64 (cols g : Nat)] V (ElimPost g (cols g) V) from by
    obtain ⟨a', c', e, hl⟩ := hv.keep q
    cases e
    exact elim_c _ g (cols g) (cols g) K V hl rg (by omega) (by omega) (Nat.le_refl _) hz0 hp0 hK1 hbd hK))
  have CC := Lib.hid (fun V (q : Below W.heap.size W V) => colsI (hv.keep q) (n := cols g) rfl)
  unfold ElimPost at EC
  have eL : (Det.elR g.length (gat g) (cols g)).p = pivL g := rfl
  rw [eL] at EC
  obtain ⟨L, hL⟩ : ∃ L, pivL g = L := ⟨_, rfl⟩
  rw [hL] at EC hY ⊢
  obtain ⟨z, hz⟩ : ∃ z, (Det.elR g.length (gat g) (cols g)).last * (Det.elR g.length (gat g) (cols g)).sign = z := ⟨_, rfl⟩
  rw [hz] at EC
  clear eL hL hz hz0
  obtain ⟨n, hnE⟩ : ∃ n, g.length = n := ⟨_, rfl⟩
  obtain ⟨m, hmE⟩ : ∃ m, cols g = m := ⟨_, rfl⟩
  rw [hnE] at EC CC hm
  rw [hmE] at EC CC
  have HY := Lib.hid (fun k S X hk hj => yieldAt_wide (m := 3) (hY k #[.int .i64 (L.getD k 0 : Nat)] S X hk hj rfl (fun _ h => h.elim)))
  have HJ := Lib.hid (fun V (h : Below W.heap.size W V) => hJ 0 S0 W V h0 (.of_below h) (othersB h))
  have HS0 := Lib.hid (hJS 0 S0 W h0)
  clear hv rg hn hcl hp0 hbd hK hnE hmE hY hJ hJx hJS h0
  have hB := Below.refl W.heap.size W
  have zm := cell_lt hm
  go_enter Tryz.func155, Tryz.ntmps155
  go_wp2
  go_cut [4] (fun s4 wx => ∃ pa pc, s4 = .slice pa L.length pc ∧ Hid (IsPv W.heap.size wx (.slice pa L.length pc) L) ∧ Below W.heap.size W wx)
  case first =>
    have HS := Lib.hid (show ∀ V, Below W.heap.size W V → V.cell? ⟨B, 0, none⟩ = some (.slice a n cp) from fun V q => bkeep q hm)
    have hBj := Below.refl W.heap.size W
    have hla1 := hBj.size
    go_region_held3 (fun V => V.cell? ⟨B, 0, none⟩ = some (.slice a n cp))
      (first | (refine HS.out _ ?_; (repeat' (first | exact Below.refl _ _ | exact hBj | refine Below.drew ?_ | refine below_drewN ?_ _ | refine bal ?_ _ | refine bset ?_ ?_ _ | exact hla11 | exact Nat.le_trans hla11 (Nat.le_succ _) | exact hla12 | exact Nat.le_trans hla12 (Nat.le_succ _) | exact Nat.le_refl _ | exact Nat.le_succ _)); done) | fail)
      (first
      | (go_at_call 27; (with_reducible refine (CC.out _ ?_).mono ?_); (repeat (first|exact bzR _ _|exact hBj|refine bzD ?_|refine bzN ?_|refine bzS ?_|refine bzA ?_)); rintro e w11 ⟨rfl, hb11⟩; (have hBd : Below W.heap.size W w11 := bthen (by repeat (first|exact bzR _ _|exact hBj|refine bzD ?_|refine bzN ?_|refine bzS ?_|refine bzA ?_)) hb11; clear hBj; have hBj := hBd; clear hBd); have hc11 := (bcell hb11).1; have hf11 := (bcell hb11).2; have ht11 := tcell hb11; have hla11 := hBj.size; have hs11 := hb11.size; (try simp [go_sem] at hs11); (try have qa11 : W.heap.size < w11.heap.size := by omega))
      | (go_at_call 156; (with_reducible refine (EC.out _ ?_).mono ?_); (repeat (first|exact bzR _ _|exact hBj|refine bzD ?_|refine bzN ?_|refine bzS ?_|refine bzA ?_)); rintro e w12 ⟨⟨ea, ec, pa, pc, zv, rfl, hp, hzv⟩, hb12⟩; have HP := Lib.hid (show IsPv W.heap.size w12 (.slice pa L.length pc) L from IsL.rebase hp (show Below W.heap.size W _ by repeat (first|exact bzR _ _|exact hBj|refine bzD ?_|refine bzN ?_|refine bzS ?_|refine bzA ?_)).size); (have hBd : Below W.heap.size W w12 := bthen (by repeat (first|exact bzR _ _|exact hBj|refine bzD ?_|refine bzN ?_|refine bzS ?_|refine bzA ?_)) hb12; clear hBj; have hBj := hBd; clear hBd); have hc12 := (bcell hb12).1; have hf12 := (bcell hb12).2; have ht12 := tcell hb12; have hla12 := hBj.size; have hs12 := hb12.size; (try simp [go_sem] at hs12); (try have qa12 : W.heap.size < w12.heap.size := by omega); (try have qb12 : w11.heap.size < w12.heap.size := by omega); obtain ⟨nz, az, cz, lz, rfl, -⟩ := hzv; unfold iv at *; clear hp)
      | fail)
    all_goals
      go_wp2_with fail
      go_meet
      refine (fun hbx => ⟨pa, pc, rfl, Lib.hid ?_, hbx⟩ : Below W.heap.size W _ → _) ?_
      all_goals first
        | ((repeat' (first | exact Below.refl _ _ | exact hBj | refine Below.drew ?_ | refine below_drewN ?_ _ | refine bal ?_ _ | refine bset ?_ ?_ _ | exact hla11 | exact Nat.le_trans hla11 (Nat.le_succ _) | exact hla12 | exact Nat.le_trans hla12 (Nat.le_succ _) | exact Nat.le_refl _ | exact Nat.le_succ _)); done)
        | ((repeat' (first | exact HP.out | refine IsPv.al ?_ _ | refine IsPv.dr ?_ | refine IsPv.setT ?_ ?_ _)) <;> (simp (disch := (first | (simp; done) | (simp; omega) | omega)) only [typ_set, typ_alloc_eq, typ_alloc_lt, ht11, ht12, typ_drew]; done))
  case rest =>
    obtain ⟨pa, pc, rfl, HP, hk⟩ := hcut
    have hj0 := HJ.out wc hk
    have hcs := hk.size
    have hLb : L.length ≤ 9223372036854775807 := by
      obtain ⟨_, c9, e9, h9, h10, _⟩ := (show IsL 3 PInt W.heap.size wc (.slice pa L.length pc) L from HP.out)
      unfold maxLen at h10; omega
    have HR0 := Lib.hid (show ∀ q, S0 q → q < W.heap.size ∨ wc.heap.size ≤ q from fun q hq => .inl (HS0.out.lt hq))
    clear EC CC hm zm hB HJ HS0
    go_wp2
    go_loopw [19] (fun x wr => ∃ k : Nat, k ≤ L.length ∧ x = .int .i64 k ∧ ∃ S, J k S wr ∧ Hid ((∀ q, S q → q < W.heap.size ∨ wc.heap.size ≤ q) ∧ (∀ q, W.heap.size ≤ q → q < wc.heap.size → (wr : World).heap[q]? = (wc : World).heap[q]?) ∧ wc.heap.size ≤ wr.heap.size)) (fun x _ => L.length - (intOf x).toNat)
    case atStart => exact ⟨0, Nat.zero_le _, rfl, S0, hj0, Lib.hid ⟨HR0.out, fun _ _ _ => rfl, Nat.le_refl _⟩⟩
    case round =>
      obtain ⟨k, hkl, rfl, S, hj, hkp⟩ := hrel
      by_cases hlt : k < L.length
      · have hltI : (k : Int) < (L.length : Int) := by omega
        obtain ⟨a', c', he, -, vr⟩ := IsL.view0 (show IsL 3 PInt W.heap.size wc (.slice pa L.length pc) L from HP.out)
        obtain ⟨rfl, -, rfl⟩ := Value.slice.inj he
        obtain ⟨b, off, u, rfl, hbb, hu, hpi⟩ := vr k hlt
        have hpi2 : u = .int .i64 (L[k] : Nat) := hpi
        subst hpi2
        have hu2 : wr.cell? ⟨b, off + k, none⟩ = some (.int .i64 (L[k] : Nat)) := by
          rw [World.cell?_of_block (w := wc) (hkp.out.2.1 b hbb (cell_lt hu))]; exact hu
        obtain ⟨fn, tmps, asg, body, hy, hR⟩ := HY.out k S wr hlt hj
        have hgd : L.getD k 0 = L[k] := by simp [hlt]
        rw [hgd] at hy
        obtain ⟨x, hx⟩ : ∃ x, L[k] = x := ⟨_, rfl⟩
        rw [hx] at hy hu2
        have zu := cell_lt hu2
        clear he vr hu hpi hx hj hgd
        go_upto_region 4 with (fail)
        refine (wpIn_wide (n := 4)).1 ?_
        gi_wp2
        refine hR.mono ?_
        rintro e W' (⟨rfl, S', hg', hJ', ho'⟩ | ⟨rfl, S', hJx'⟩)
        · have HN := Lib.hid (show (∀ q, S' q → q < W.heap.size ∨ wc.heap.size ≤ q) ∧ (∀ q, W.heap.size ≤ q → q < wc.heap.size → W'.heap[q]? = wc.heap[q]?) ∧ wc.heap.size ≤ W'.heap.size from by
            obtain ⟨h1, h2, h3⟩ := hkp.out
            refine ⟨fun q hq => ?_, fun q hq1 hq2 => ?_, Nat.le_trans h3 ho'.1.size⟩
            · rcases hg' q hq with h | h
              · exact h1 q h
              · exact .inr (Nat.le_trans h3 h)
            · rw [ho'.1.block q (by omega) (fun h => by rcases h with h | h; (rcases h1 q h with h | h <;> omega); exact h)]
              exact h2 q hq1 hq2)
          clear hg' ho'
          gi_wp2
          go_wp2
          exact ⟨⟨k + 1, hlt, by go_num, S', hJ', HN⟩, meas hlt (by go_num) rfl⟩
        · gi_wp2
          go_wp2
          refine bodyPost_ret (results_none rfl _ _ _) rfl ?_
          exact ⟨⟨_, rfl⟩, .inr ⟨k + 1, S', hlt, hJx'⟩⟩
      · obtain rfl : k = L.length := by omega
        have hltI : ¬ (L.length : Int) < (L.length : Int) := by omega
        go_wp2
        refine bodyPost_end (results_none rfl _ _ _) rfl ?_
        exact ⟨⟨_, rfl⟩, .inl ⟨S, hj⟩⟩
end Go.Proofs.YtbmaffijncapiaaGreatDoor

/- slices.Collect of an iterator of small numbers; slices.Equal of two lists of them. -/
namespace Go.Proofs.YtbmaffijncapiaaGreatDoor
open Num
open Go.ChangeShapes Go.WideShapes Go.ChangeAt Go.RowKit
set_option linter.unusedVariables false
set_option linter.unusedSimpArgs false
attribute [local go_sem ↓] Go.wp_at_zero Go.wp_at_succ
attribute [local go_sem] Oper.semAt_some
theorem kp_putI {S : TypeId → Prop} {X : World} {l : Nat} {o o' : Obj} (h1 : X.heap[l]? = some o) (h2 : o.isCells = false) : Kp S X (X.putObj l o') := fun q t ht _ => World.putObj_heap_other (fun e => by subst e; rw [typ_none h1 h2] at ht; cases ht)
def SeqPost (L : List Nat) (w : World) (e : Ending) (w' : World) : Prop := (∃ a c, e = .returned (.slice a L.length c) ∧ IsL 3 PInt w.heap.size w' (.slice a L.length c) L) ∧ Below w.heap.size w w'
set_option maxRecDepth 100000 in
set_option maxHeartbeats 8000000 in
theorem appendSeqI_c (gf : Nat) (lb : Array Value) (L : List Nat) (G : World → Prop) (w : World) (eg : ∀ args w, (callFunc gf args).run Tryz.prog w = .ok (.enter gf args) w)
    (hseq : ∀ n0 S0, IterD Tryz.prog gf lb (APv L) L.length (fun _ _ => False) n0 S0 G) (hG : ∀ W, Below w.heap.size w W → G W) (hL : L.length ≤ 1099511627775) :
    Calls Tryz.prog 157 #[.slice none 0 0, .func (.func gf) #[] lb] w (SeqPost L w) := by
  have HG := Lib.hid hG
  have HSQ := Lib.hid hseq
  have HLL := Lib.hid hL
  have hB := Below.refl w.heap.size w
  clear hG hseq hL
  refine calls_of_wp_marks Tryz.func157 rfl ?_
  simp only [Tryz.ntmps157, List.size_toArray, List.length_cons, List.length_nil, Nat.reduceAdd, Nat.reduceSub, Array.replicate_succ, Array.replicate_zero, List.push_toArray, List.append_toArray, List.nil_append, List.cons_append]
  go_wp2
  refine wp_name fun w1 hW1 => ?_
  have hB1 : Below w.heap.size w w1 := by rw [hW1]; repeat (first|exact bzR _ _|exact hB|refine bzD ?_|refine bzN ?_|refine bzS ?_|refine bzA ?_)
  have hz1 : w.heap.size < w1.heap.size := by rw [hW1]; simp
  have H0 := Lib.hid (show LstS 23 3 PInt w1 w.heap.size (L.take 0) (fun q => q = w.heap.size ∨ (Value.slice none 0 0).ownBlock = some q) w1 from
    ⟨_, rfl, by rw [hW1]; exact cell_new rfl rfl, by rw [hW1]; simp [go_sem], by rw [hW1]; exact typ_fresh (by simp), ⟨[], by simpa using World.ownsRow_nil _ _ _ _, fun k hk => absurd hk (by simp)⟩, Out.refl _ _⟩)
  clear hW1 hB
  refine wp_rangeD (gf := gf) (lb := lb) (by simp [Act.eval]) eg (HSQ.out w1.heap.size _) (Nat.le_refl _) (fun W h => HG.out W (bthen hB1 h)) (fun _ _ _ h => by cases h; rfl)
    (fun k S W => LstS 23 3 PInt w1 w.heap.size (L.take k) S W) (fun _ _ _ _ => False)
    (fun k S X Y h c => LstS.clo (pru_pint _ _) h c) (fun _ _ _ _ _ h _ => h.elim)
    (fun k S X h => h.soil (by decide) (by decide)) (fun _ _ _ _ h => h.elim) H0.out
    (fun T k args S a' X => a' = { tmps := (T.setIfInBounds 7 (.int .i64 (L.getD k 0 : Nat))).setIfInBounds 5 (.int .i64 (L.getD k 0 : Nat)), defers := [] }) (fun k args S a' X l o o' _ h1 h2 h => h)
    (fun k args X q h hq => hq.elim) ?assignA ?bodyA ?doneA (fun _ _ _ _ _ _ _ h => h.elim)
  case assignA =>
    rintro y k args S X Kk hk hi ha hxs hKk
    cases ha
    generalize L.getD k 0 = d at *
    gi_wp2
    exact hKk _ _ (Below.refl _ _) hi (by simp)
  case bodyA =>
    rintro y k args S a' w2 hk ⟨v, rfl, hD⟩ rfl
    have HD := Lib.hid hD
    have HT := Lib.hid (show L.take (k + 1) = L.take k ++ [L.getD k 0] by
      rw [List.take_add_one, List.getElem?_eq_getElem hk]; simp [hk])
    have hlk : (L.take k).length + 1 ≤ 1099511627776 := by rw [List.length_take]; have := HLL.out; omega
    obtain ⟨d, hd⟩ : ∃ d, L.getD k 0 = d := ⟨_, rfl⟩
    rw [hd] at HT ⊢
    obtain ⟨M, hM⟩ : ∃ M, L.take k = M := ⟨_, rfl⟩
    rw [hM] at HD HT hlk hD
    clear hM
    obtain ⟨va, vc, rfl⟩ := hD.ex
    have c0 := hD.c0
    have cf := hD.f0
    have zc := cell_lt c0
    simp only [List.setIfInBounds_toArray, List.set_cons_succ, List.set_cons_zero]
    clear hD hd
    gi_wp2_with (gi_at_builtin; refine app_lstIn elInts (pru_pint _ _) (by decide) (by decide) (by rfl) (by rfl) HD.out hz1 (bal (Below.refl _ _) _) hlk (cell_new rfl rfl) (show PInt _ (.int .i64 (d : Nat)) d from rfl) (by rfl) (by rfl) ?_; intro v' w' ⟨sa, sc, hsv⟩ c1 c1f hO hS; subst hsv; have HO := Lib.hid hO; have HS := Lib.hid hS; have zc1 := cell_lt c1; clear hO hS)
    refine ⟨HO.out.orL, ?_⟩
    have hss := HS.out
    rw [← HT.out] at hss
    exact hss
  case doneA =>
    rintro D1 S Y1 hD1 ⟨v, -, hDV⟩ hK1
    rw [List.take_length] at hDV
    obtain ⟨va, vc, rfl⟩ := hDV.ex
    have c0 := hDV.c0
    have zc := cell_lt c0
    have HI := Lib.hid (show IsL 3 PInt w.heap.size Y1 (.slice va L.length vc) L from IsL.rebase hDV.isL hB1.size)
    have hBY : Below w.heap.size w Y1 := hB1.trans (hDV.out.to_below (fun q hq _ e => by omega) hB1.size)
    have hD1l := (Array.getElem?_eq_some_iff.1 hK1).1
    clear hDV
    go_wp2
    refine ⟨by simp, .inl ⟨_, _, rfl, run_takeDeferred (b := D1) (ds := []) hK1, ?_⟩⟩
    refine ⟨.slice va L.length vc, ?_, ⟨_, _, rfl, ?_⟩, b_put hBY (by have := hBY.size; omega) _⟩
    · simp [results, Tryz.results157, go_sem]
    · exact IsL.kp (S' := fun _ => True) prs_pint HI.out (kp_putI hK1 rfl) (fun _ h => h.elim) trivial
set_option maxRecDepth 100000 in
theorem collectI_c (gf : Nat) (lb : Array Value) (L : List Nat) (G : World → Prop) (w : World) (eg : ∀ args w, (callFunc gf args).run Tryz.prog w = .ok (.enter gf args) w)
    (hseq : ∀ n0 S0, IterD Tryz.prog gf lb (APv L) L.length (fun _ _ => False) n0 S0 G) (hG : ∀ W, Below w.heap.size w W → G W) (hL : L.length ≤ 1099511627775) :
    Calls Tryz.prog 68 #[.func (.func gf) #[] lb] w (SeqPost L w) := by
  have AC := Lib.hid (appendSeqI_c gf lb L G w eg hseq hG hL)
  clear eg hseq hG hL
  go_enter Tryz.func68, Tryz.ntmps68
  go_wp2_with fail
  refine AC.out.mono ?_
  rintro e w1 ⟨⟨a, c, rfl, hI⟩, hb1⟩
  clear AC
  go_wp2
  go_ret
  exact ⟨⟨_, _, rfl, hI⟩, hb1⟩
set_option maxRecDepth 100000 in
set_option maxHeartbeats 8000000 in
theorem equalI_c (va vb : Value) (L : List Nat) (b1 b2 : Nat) (w : World) (ha : IsL 3 PInt b1 w va L) (hb : IsL 3 PInt b2 w vb L) (hl : L.length ≤ 1099511627776) :
    Calls Tryz.prog 67 #[va, vb] w fun e w' => e = .returned (.bool true) ∧ Below w.heap.size w w' := by
  obtain ⟨aa, ca, rfl, -, hva⟩ := ha.view
  obtain ⟨ab, cb, rfl, -, hvb⟩ := hb.view
  have HVA := Lib.hid hva
  have HVB := Lib.hid hvb
  clear ha hb hva hvb
  have hB := Below.refl w.heap.size w
  have dL : ((L.length : Int) != (L.length : Int)) = false := by simp
  go_enter Tryz.func67, Tryz.ntmps67
  go_wp2
  go_loopw [13] (fun x wr => ∃ k : Nat, k ≤ L.length ∧ x = .int .i64 k ∧ Below w.heap.size w wr) (fun x _ => L.length - (intOf x).toNat)
  case atStart => exact ⟨0, Nat.zero_le _, rfl, hB⟩
  case round =>
    obtain ⟨k, hk, rfl, hBr⟩ := hrel
    by_cases hlt : k < L.length
    · have hltI : (k : Int) < (L.length : Int) := by omega
      obtain ⟨p, o, u, rfl, hu, hp⟩ := HVA.out k hlt
      obtain ⟨p2, o2, u2, rfl, hu2, hp2⟩ := HVB.out k hlt
      have e1 : u = .int .i64 (L[k] : Nat) := hp
      have e2 : u2 = .int .i64 (L[k] : Nat) := hp2
      subst e1 e2
      generalize L[k] = d at *
      have hc1 := bkeep hBr hu
      have hc2 := bkeep hBr hu2
      have z1 := cell_lt hc1
      have z2 := cell_lt hc2
      have dD : ((d : Int) != (d : Int)) = false := by simp
      go_upto_region 6 with (fail)
      go_quiet (fail)
      go_wp2
      exact ⟨⟨k + 1, hlt, by go_num, by repeat (first|exact bzR _ _|exact hBr|refine bzD ?_|refine bzN ?_|refine bzS ?_|refine bzA ?_)⟩, meas hlt (by go_num) rfl⟩
    · obtain rfl : k = L.length := by omega
      have hltI : ¬ (L.length : Int) < (L.length : Int) := by omega
      go_wp2
      go_ret
      exact ⟨rfl, hBr⟩
end Go.Proofs.YtbmaffijncapiaaGreatDoor

/- The reference: the greatest common divisor. -/
namespace Go.Proofs.YtbmaffijncapiaaGreatDoor
open Num
open Go.ChangeShapes Go.WideShapes Go.ChangeAt Go.RowKit
set_option linter.unusedVariables false
set_option linter.unusedSimpArgs false
attribute [local go_sem ↓] Go.wp_at_zero Go.wp_at_succ
def VarR (ub : Nat) (m : Int) (W : World) : Prop := typOf W ub = some 56 ∧ ∃ n a ln c, W.cell? ⟨ub, 0, none⟩ = some (.bool n) ∧ W.cell? ⟨ub, 1, none⟩ = some (.slice a ln c) ∧ W.frozen? ⟨ub, 0, none⟩ = false ∧ W.frozen? ⟨ub, 1, none⟩ = false ∧ IsRef W (.agg #[.bool n, .slice a ln c]) m
theorem VarR.keep {ub : Nat} {m : Int} {W V : World} (h : VarR ub m W) (k : Below W.heap.size W V) : VarR ub m V := by
  obtain ⟨ht, n, a, ln, c, h0, h1, f0, f1, hi⟩ := h
  exact ⟨typ_keep ht k, n, a, ln, c, bkeep k h0, bkeep k h1, bkeepf k h0 f0, bkeepf k h1 f1, hi.keep k⟩
theorem VarR.put {ub : Nat} {m z : Int} {W : World} {n : Bool} {a : Option Addr} {ln c : Nat} (h : VarR ub m W) (hi : IsRef W (.agg #[.bool n, .slice a ln c]) z) : VarR ub z ((W.setCell ⟨ub, 0, none⟩ (.bool n)).setCell ⟨ub, 1, none⟩ (.slice a ln c)) := by
  obtain ⟨ht, n', a', ln', c', h0, h1, f0, f1, _⟩ := h
  refine ⟨by rw [typ_set, typ_set]; exact ht, n, a, ln, c, cell_far (cell_here h0 _) (by simp) _, cell_here (cell_far h1 (by simp) _) _, ?_, ?_, hi.put2 h0 h1 _ _⟩
  · rw [World.frozen?_setCell, World.frozen?_setCell]; exact f0
  · rw [World.frozen?_setCell, World.frozen?_setCell]; exact f1
theorem VarR.far {ub vb : Nat} {z m : Int} {W : World} (h : VarR ub m W) (k : VarR vb z W) (hne : ub ≠ vb) (x : Bool) (y : Option Addr) (p q : Nat) : VarR ub m ((W.setCell ⟨vb, 0, none⟩ (.bool x)).setCell ⟨vb, 1, none⟩ (.slice y p q)) := by
  obtain ⟨ht, n, a, ln, c, h0, h1, f0, f1, hi⟩ := h
  obtain ⟨-, n', a', ln', c', k0, k1, -, -, -⟩ := k
  exact ⟨by rw [typ_set, typ_set]; exact ht, n, a, ln, c, cell_far (cell_far h0 (addr_ne (Ne.symm hne)) _) (addr_ne (Ne.symm hne)) _, cell_far (cell_far h1 (addr_ne (Ne.symm hne)) _) (addr_ne (Ne.symm hne)) _, by rw [World.frozen?_setCell, World.frozen?_setCell]; exact f0, by rw [World.frozen?_setCell, World.frozen?_setCell]; exact f1, hi.put2 k0 k1 _ _⟩
theorem Lim.setT {a b : World} (h : Lim a b) {p : Addr} {t : TypeId} (hp : typOf b p.block = some t) (ht : t ≠ 177) (u : Value) : Lim a (b.setCell p u) := h.trans fun q hq => by
  have hne : q ≠ p.block := fun e => by subst e; rw [hp] at hq; exact ht (Option.some.inj hq)
  exact ⟨by rw [typ_set]; exact hq, fun o n hc => cell_far hc (fun e => hne (by rw [e])) _⟩
theorem ref_zero {W : World} {n : Bool} {a : Option Addr} {ln c : Nat} {z : Int} (h : IsRef W (.agg #[.bool n, .slice a ln c]) z) : z = 0 ↔ ln = 0 := by
  obtain ⟨n1, a1, c1, l1, e, u1, q1, g1, s1, rfl⟩ := h
  unfold iv at e
  cases e
  rw [ref_len g1]; exact List.length_eq_zero_iff.symm
set_option maxRecDepth 100000 in
set_option maxHeartbeats 16000000 in
theorem rgcd_c (vx vy : Value) (x y : Int) (k : Nat) (w : World) (hx : IsRef w vx x) (hy : IsRef w vy y) (bx : Bd k x) (by' : Bd k y) (hk : k ≤ 17179869184) :
    Calls Tryz.prog 113 #[vx, vy] w fun e w' => (∃ u, e = .returned u ∧ IsRef w' u (gcdI x y)) ∧ Below w.heap.size w w' := by
  have AX := Lib.hid (fun W (q : Below w.heap.size w W) => rabs_c vx x W (hx.keep q))
  have AY := Lib.hid (fun W (q : Below w.heap.size w W) => rabs_c vy y W (hy.keep q))
  obtain ⟨nx, ax, cx, lx, rfl, -⟩ := hx
  obtain ⟨ny, ay, cy, ly, rfl, -⟩ := hy
  unfold iv at *
  obtain ⟨kx, hkx⟩ : ∃ m, lx.length = m := ⟨_, rfl⟩
  obtain ⟨ky, hky⟩ : ∃ m, ly.length = m := ⟨_, rfl⟩
  rw [hkx] at AX ⊢
  rw [hky] at AY ⊢
  clear hkx hky
  have HBD := Lib.hid (show x.natAbs < 2 ^ k ∧ y.natAbs < 2 ^ k from ⟨bx, by'⟩)
  unfold gcdI
  clear bx by'
  obtain ⟨m, hm⟩ : ∃ m, x.natAbs = m := ⟨_, rfl⟩
  obtain ⟨n, hn⟩ : ∃ n, y.natAbs = n := ⟨_, rfl⟩
  rw [hm] at AX HBD ⊢
  rw [hn] at AY HBD ⊢
  clear hm hn
  have hB := Below.refl w.heap.size w
  go_enter Tryz.func113, Tryz.ntmps113
  go_wp2
  refine wp_name fun w1 hW1 => ?_
  have hB1 : Below w.heap.size w w1 := by rw [hW1]; repeat (first|exact bzR _ _|exact hB|refine bzD ?_|refine bzN ?_|refine bzS ?_|refine bzA ?_)
  have hX1 : w1.cell? ⟨w.heap.size, 0, none⟩ = some (.bool nx) ∧ w1.cell? ⟨w.heap.size, 1, none⟩ = some (.slice ax kx cx) ∧ w1.cell? ⟨w.heap.size + 1, 0, none⟩ = some (.bool ny) ∧ w1.cell? ⟨w.heap.size + 1, 1, none⟩ = some (.slice ay ky cy) := by rw [hW1]; simp [go_sem]
  have HR1 := Lib.hid (show w1.cell? ⟨w.heap.size + 1 + 1, 0, none⟩ = some (.bool false) ∧ w1.cell? ⟨w.heap.size + 1 + 1, 1, none⟩ = some (.slice none 0 0) ∧ w1.frozen? ⟨w.heap.size + 1 + 1, 0, none⟩ = false ∧ w1.frozen? ⟨w.heap.size + 1 + 1, 1, none⟩ = false ∧ typOf w1 (w.heap.size + 1 + 1) = some 56 from by rw [hW1]; simp [go_sem]; exact typ_fresh (by simp))
  clear hW1
  obtain ⟨x0, x1, y0, y1⟩ := hX1
  have zx := cell_lt x0
  have zy := cell_lt y0
  go_upto_region 1 with (fail)
  go_cut [5, 6] (fun s5 s6 wx => ∃ ab bb, s5 = .pointer (some ⟨ab, 0, none⟩) ∧ s6 = .pointer (some ⟨bb, 0, none⟩) ∧ ab ≠ bb ∧ w1.heap.size ≤ ab ∧ w1.heap.size ≤ bb ∧ Hid (VarR ab m wx) ∧ Hid (VarR bb n wx) ∧ Below w1.heap.size w1 wx)
  case first =>
    have hBj := Below.refl w1.heap.size w1
    have HS := Lib.hid (show ∀ W, Below w1.heap.size w1 W → W.cell? ⟨w.heap.size, 0, none⟩ = some (.bool nx) ∧ W.cell? ⟨w.heap.size, 1, none⟩ = some (.slice ax kx cx) ∧ W.cell? ⟨w.heap.size + 1, 0, none⟩ = some (.bool ny) ∧ W.cell? ⟨w.heap.size + 1, 1, none⟩ = some (.slice ay ky cy) from fun W q => ⟨bkeep q x0, bkeep q x1, bkeep q y0, bkeep q y1⟩)
    go_region_held3 (fun W => W.cell? ⟨w.heap.size, 0, none⟩ = some (.bool nx) ∧ W.cell? ⟨w.heap.size, 1, none⟩ = some (.slice ax kx cx) ∧ W.cell? ⟨w.heap.size + 1, 0, none⟩ = some (.bool ny) ∧ W.cell? ⟨w.heap.size + 1, 1, none⟩ = some (.slice ay ky cy))
      (first | (refine HS.out _ ?_; (repeat' (first | exact Below.refl _ _ | exact hBj | refine Below.drew ?_ | refine below_drewN ?_ _ | refine bal ?_ _ | refine bset ?_ ?_ _ | exact hla1 | exact Nat.le_trans hla1 (Nat.le_succ _) | exact hla2 | exact Nat.le_trans hla2 (Nat.le_succ _) | exact Nat.le_refl _ | exact Nat.le_succ _)); done) | fail)
      (first
      | (go_at_call 201; (with_reducible show Calls _ _ #[.agg #[.bool nx, _]] _ _); refine (AX.out _ (bthen hB1 ?_)).mono ?_; (repeat (first|exact bzR _ _|exact hBj|refine bzD ?_|refine bzN ?_|refine bzS ?_|refine bzA ?_)); rintro e w11 ⟨⟨v11, rfl, hv11⟩, hb11⟩; (have hBd : Below w1.heap.size w1 w11 := bthen (by repeat (first|exact bzR _ _|exact hBj|refine bzD ?_|refine bzN ?_|refine bzS ?_|refine bzA ?_)) hb11; clear hBj; have hBj := hBd; clear hBd); have hc11 := (bcell hb11).1; have hf11 := (bcell hb11).2; have ht11 := tcell hb11; have hla1 := hBj.size; have hs11 := hb11.size; (try simp [go_sem] at hs11); (try have qa : w1.heap.size < w11.heap.size := by omega); (try have qb : w1.heap.size + 1 < w11.heap.size := by omega); have zy11 := Nat.lt_of_lt_of_le zy hBj.size; have zy12 := Nat.lt_of_lt_of_le zx hBj.size; have HV11 := Lib.hid hv11; obtain ⟨n11, a11, c11, l11, rfl, -⟩ := hv11; unfold iv at *)
      | (go_at_call 201; (with_reducible show Calls _ _ #[.agg #[.bool ny, _]] _ _); refine (AY.out _ (bthen hB1 ?_)).mono ?_; (repeat (first|exact bzR _ _|exact hBj|refine bzD ?_|refine bzN ?_|refine bzS ?_|refine bzA ?_)); rintro e w12 ⟨⟨v12, rfl, hv12⟩, hb12⟩; (have hBd : Below w1.heap.size w1 w12 := bthen (by repeat (first|exact bzR _ _|exact hBj|refine bzD ?_|refine bzN ?_|refine bzS ?_|refine bzA ?_)) hb12; clear hBj; have hBj := hBd; clear hBd); have hc12 := (bcell hb12).1; have hf12 := (bcell hb12).2; have ht12 := tcell hb12; have hla2 := hBj.size; have hs12 := hb12.size; (try simp [go_sem] at hs12); (try have qc : w11.heap.size < w12.heap.size := by omega); (try have qd : w11.heap.size + 1 < w12.heap.size := by omega); (try have qe : w1.heap.size < w12.heap.size := by omega); (try have qf : w1.heap.size + 1 < w12.heap.size := by omega); have HV12 := Lib.hid hv12; obtain ⟨n12, a12, c12, l12, rfl, -⟩ := hv12; unfold iv at *)
      | fail)
    all_goals
      go_wp2_with fail
      go_meet
      refine (fun hbx => ⟨_, _, rfl, rfl, by omega, by omega, by omega, Lib.hid ⟨?_, n11, a11, l11.length, c11, ?_, ?_, ?_, ?_, HV11.out.limQ ?_⟩, Lib.hid ⟨?_, n12, a12, l12.length, c12, ?_, ?_, ?_, ?_, HV12.out.limQ ?_⟩, hbx⟩ : Below w1.heap.size w1 _ → _) ?_
      all_goals first
        | (simp (disch := (first | (simp; done) | (simp; omega) | omega)) only [typ_set, typ_alloc_eq, typ_alloc_lt, ht12, ht11, typ_drew]; done)
        | (with_reducible show Lim _ _; (repeat (first | exact Lim.refl _ | exact Lim.of_below hb12 | refine Lim.below ?_ hb12 | refine Lim.alloc ?_ _ | refine Lim.drew ?_ | (refine Lim.setT (t := 56) ?_ ?tt (by decide) _; case tt => (simp (disch := (first | (simp; done) | (simp; omega) | omega)) only [typ_set, typ_alloc_eq, typ_alloc_lt, ht12, ht11, typ_drew]; done)))); done)
        | (simp [go_sem, *]; done)
        | ((repeat' (first | exact Below.refl _ _ | exact hBj | refine Below.drew ?_ | refine below_drewN ?_ _ | refine bal ?_ _ | refine bset ?_ ?_ _ | exact hla1 | exact Nat.le_trans hla1 (Nat.le_succ _) | exact hla2 | exact Nat.le_trans hla2 (Nat.le_succ _) | exact Nat.le_refl _ | exact Nat.le_succ _)); done)
        | ((repeat (refine cell_far ?_ ?b _; case b => (first | (simp; done) | (simp; omega)))); (first | (refine cell_here (v := .bool false) ?_ _; (repeat (refine cell_far ?_ ?b _; case b => (first | (simp; done) | (simp; omega)))); (simp [go_sem, *]; done)) | (refine cell_here (v := .slice none 0 0) ?_ _; (repeat (refine cell_far ?_ ?b _; case b => (first | (simp; done) | (simp; omega)))); (simp [go_sem, *]; done))))
  case rest =>
    obtain ⟨ab, bb, rfl, rfl, hne, hla, hlb, hA, hBv, hbx⟩ := hcut
    have hb1c : Below w.heap.size w wc := bthen hB1 hbx
    have hrl : w.heap.size + 1 + 1 < w1.heap.size := cell_lt HR1.out.1
    have HR := Lib.hid (show wc.cell? ⟨w.heap.size + 1 + 1, 0, none⟩ = some (.bool false) ∧ wc.cell? ⟨w.heap.size + 1 + 1, 1, none⟩ = some (.slice none 0 0) ∧ wc.frozen? ⟨w.heap.size + 1 + 1, 0, none⟩ = false ∧ wc.frozen? ⟨w.heap.size + 1 + 1, 1, none⟩ = false from ⟨bkeep hbx HR1.out.1, bkeep hbx HR1.out.2.1, bkeepf hbx HR1.out.1 HR1.out.2.2.1, bkeepf hbx HR1.out.2.1 HR1.out.2.2.2.1⟩)
    have hws : w.heap.size ≤ w1.heap.size := hB1.size
    have H0 := Lib.hid (show VarR ab m wc ∧ VarR bb n wc ∧ Nat.gcd m n = Nat.gcd m n ∧ m < 2 ^ k ∧ n < 2 ^ k from ⟨hA.out, hBv.out, rfl, HBD.out.1, HBD.out.2⟩)
    clear AX AY x0 x1 y0 y1 zx zy HR1 hB1 hbx hA hBv HBD hB
    go_wp2
    go_loopg [] n (fun gk wr => ∃ m' : Nat, Hid (VarR ab m' wr ∧ VarR bb gk wr ∧ Nat.gcd m' gk = Nat.gcd m n ∧ m' < 2 ^ k ∧ gk < 2 ^ k) ∧ Hid (wr.cell? ⟨w.heap.size + 1 + 1, 0, none⟩ = some (.bool false) ∧ wr.cell? ⟨w.heap.size + 1 + 1, 1, none⟩ = some (.slice none 0 0) ∧ wr.frozen? ⟨w.heap.size + 1 + 1, 0, none⟩ = false ∧ wr.frozen? ⟨w.heap.size + 1 + 1, 1, none⟩ = false) ∧ Below w.heap.size w wr)
    case atStart => exact ⟨m, Lib.hid ⟨H0.out.1, H0.out.2.1, rfl, H0.out.2.2.2.1, H0.out.2.2.2.2⟩, HR, hb1c⟩
    case round =>
      obtain ⟨m', H, HR, hBr⟩ := hrel
      obtain ⟨-, n1, a1, l1, c1, a0, a1', -, -, aI⟩ := H.out.1
      obtain ⟨-, n2, a2, l2, c2, b0, b1, b0f, b1f, bI⟩ := H.out.2.1
      have HAI := Lib.hid aI
      have HBI := Lib.hid bI
      have za := cell_lt a0
      have zb := cell_lt b0
      have hBw := Below.refl wr.heap.size wr
      clear aI bI
      have hlz := ref_zero HBI.out
      by_cases h0 : gk = 0
      · subst h0
        have hG : (m' : Int) = (Nat.gcd m n : Nat) := by rw [← H.out.2.2.1, Nat.gcd_zero_right]
        obtain rfl : l2 = 0 := hlz.1 rfl
        have hB5 := hBr
        obtain ⟨r0, r1, r0f, r1f⟩ := HR.out
        have hp := Lib.hid (HAI.out.put2 r0 r1 (.bool n1) (.slice a1 l1 c1))
        rw [hG] at hp
        clear H b0f b1f HBI hlz
        go_wp2
        refine bodyPost_ret (v := .agg #[.bool n1, .slice a1 l1 c1]) (by simp [results, Tryz.results113, go_sem, *]) rfl ⟨⟨_, rfl, hp.out⟩, ?_⟩
        repeat (first|exact bzR _ _|exact hB5|refine bzD ?_|refine bzN ?_|refine bzS ?_|refine bzA ?_)
      · have hl0 : (0 : Int) < (l2 : Int) := by have : l2 ≠ 0 := fun e => h0 (by have := hlz.2 e; omega); omega
        have HM := Lib.hid h0
        have HBD := Lib.hid (And.intro H.out.2.2.2.1 (And.intro H.out.2.2.2.2 H.out.2.2.1))
        have HV5 := Lib.hid (And.intro H.out.1 H.out.2.1)
        have dc := fun W (q : Below wr.heap.size wr W) => rdivmod_c _ _ (m' : Int) (gk : Int) k W (HAI.out.keep q) (HBI.out.keep q) (by unfold Bd; rw [Int.natAbs_natCast]; exact HBD.out.1) (by unfold Bd; rw [Int.natAbs_natCast]; exact HBD.out.2.1) (by omega) (by have := HM.out; omega)
        rw [show ((m' : Int) % (gk : Int)) = ((m' % gk : Nat) : Int) from (Int.natCast_emod m' gk).symm] at dc
        have hB5 := hBr
        clear hlz h0 H
        go_wp2_with fail
        refine (dc _ (by repeat (first|exact bzR _ _|exact hBw|refine bzD ?_|refine bzN ?_|refine bzS ?_|refine bzA ?_))).mono ?_
        rintro e w6 ⟨⟨u6, r6, rfl, hu6, hr6⟩, hb6⟩
        have hb6' : Below wr.heap.size wr w6 := bthen (by repeat (first|exact bzR _ _|exact hBw|refine bzD ?_|refine bzN ?_|refine bzS ?_|refine bzA ?_)) hb6
        have HR6 := Lib.hid hr6
        obtain ⟨n7, a7, c7, l7, rfl, -⟩ := hu6
        obtain ⟨n8, a8, c8, l8, rfl, -⟩ := hr6
        unfold iv at *
        have HV6 := Lib.hid (And.intro (HV5.out.1.keep hb6') (HV5.out.2.keep hb6'))
        have HRR6 := Lib.hid (show w6.cell? ⟨w.heap.size + 1 + 1, 0, none⟩ = some (.bool false) ∧ w6.cell? ⟨w.heap.size + 1 + 1, 1, none⟩ = some (.slice none 0 0) ∧ w6.frozen? ⟨w.heap.size + 1 + 1, 0, none⟩ = false ∧ w6.frozen? ⟨w.heap.size + 1 + 1, 1, none⟩ = false from ⟨bkeep hb6' HR.out.1, bkeep hb6' HR.out.2.1, bkeepf hb6' HR.out.1 HR.out.2.2.1, bkeepf hb6' HR.out.2.1 HR.out.2.2.2⟩)
        have hB6 := bthen hB5 hb6'
        clear dc a0 a1' b0 b1 b0f b1f HV5 HR za zb hb6 hB5 hBw
        have hBw6 := Below.refl w6.heap.size w6
        go_wp2
        refine wp_name fun w7 hW7 => ?_
        have hb7 : Below w6.heap.size w6 w7 := by rw [hW7]; repeat (first|exact bzR _ _|exact hBw6|refine bzD ?_|refine bzN ?_|refine bzS ?_|refine bzA ?_)
        have HC7 := Lib.hid (show VarR (w6.heap.size + 1) ((m' % gk : Nat) : Int) w7 from by rw [hW7]; exact ⟨typ_fresh (by simp), n8, a8, l8.length, c8, by simp [go_sem], by simp [go_sem], by simp [go_sem], by simp [go_sem], HR6.out.keep (bal (bal (Below.refl _ _) _) _)⟩)
        have hs7 : w6.heap.size + 1 < w7.heap.size := typ_lt HC7.out.1
        have HV7 := Lib.hid (And.intro (HV6.out.1.keep hb7) (HV6.out.2.keep hb7))
        have HRR7 := Lib.hid (show w7.cell? ⟨w.heap.size + 1 + 1, 0, none⟩ = some (.bool false) ∧ w7.cell? ⟨w.heap.size + 1 + 1, 1, none⟩ = some (.slice none 0 0) ∧ w7.frozen? ⟨w.heap.size + 1 + 1, 0, none⟩ = false ∧ w7.frozen? ⟨w.heap.size + 1 + 1, 1, none⟩ = false from ⟨bkeep hb7 HRR6.out.1, bkeep hb7 HRR6.out.2.1, bkeepf hb7 HRR6.out.1 HRR6.out.2.2.1, bkeepf hb7 HRR6.out.2.1 HRR6.out.2.2.2⟩)
        have hB7 := bthen hB6 hb7
        have hxa : ab < w6.heap.size := typ_lt HV6.out.1.1
        have hxb : bb < w6.heap.size := typ_lt HV6.out.2.1
        clear hW7 HV6 HRR6 HR6 hBw6 hb6' hB6 hb7
        obtain ⟨cb, hcb⟩ : ∃ c, w6.heap.size + 1 = c := ⟨_, rfl⟩
        rw [hcb] at HC7 hs7 ⊢
        have hac : ab < cb := by omega
        have hbc : bb < cb := by omega
        clear hcb hxa hxb
        obtain ⟨-, m1, m2, m3, m4, q0, q1, q0f, q1f, qI⟩ := HV7.out.1
        obtain ⟨-, o1, o2, o3, o4, p0, p1, p0f, p1f, pI⟩ := HV7.out.2
        obtain ⟨-, s1, s2, s3, s4, t0, t1, t0f, t1f, tI⟩ := HC7.out
        have HPI := Lib.hid pI
        have HTI := Lib.hid tI
        have zq := cell_lt q0
        have zp := cell_lt p0
        clear qI pI tI
        go_region
        all_goals
          have HA1 := HV7.out.1.put HPI.out
          have HB1' := HV7.out.2.far HV7.out.1 (Ne.symm hne) o1 o2 o3 o4
          have HC1 := HC7.out.far HV7.out.1 (Ne.symm (Nat.ne_of_lt hac)) o1 o2 o3 o4
          have HT1 := HTI.out.put2 q0 q1 (.bool o1) (.slice o2 o3 o4)
          have HB2 := HB1'.put HT1
          have HA2 := HA1.far HB1' hne s1 s2 s3 s4
          have hnab : ¬ ab = w.heap.size + 1 + 1 := by omega
          have hnbb : ¬ bb = w.heap.size + 1 + 1 := by omega
          have hr0 := cell_far2 (cell_far2 HRR7.out.1 hnab o1 o2 o3 o4) hnbb s1 s2 s3 s4
          have hr1 := cell_far2 (cell_far2 HRR7.out.2.1 hnab o1 o2 o3 o4) hnbb s1 s2 s3 s4
          have HN := Lib.hid (And.intro HA2 (And.intro HB2 (And.intro hr0 hr1)))
          have hab : w.heap.size ≤ ab := by omega
          have hbb : w.heap.size ≤ bb := by omega
          have hBN : Below w.heap.size w ((((w7.setCell ⟨ab, 0, none⟩ (.bool o1)).setCell ⟨ab, 1, none⟩ (.slice o2 o3 o4)).setCell ⟨bb, 0, none⟩ (.bool s1)).setCell ⟨bb, 1, none⟩ (.slice s2 s3 s4)) := bset (bset (bset (bset hB7 hab _) hab _) hbb _) hbb _
          clear HA1 HB1' HC1 HT1 HB2 HA2 hr0 hr1 q0 q1 q0f q1f p0 p1 p0f p1f t0 t1 t0f t1f
          go_wp2
          go_roundg (m' % gk)
          case measure => exact Nat.mod_lt _ (Nat.pos_of_ne_zero HM.out)
          case rel => exact ⟨gk, Lib.hid ⟨HN.out.1.keep (Below.refl _ _).drew, HN.out.2.1.keep (Below.refl _ _).drew, by rw [gcd_step, HBD.out.2.2], HBD.out.2.1, Nat.lt_of_lt_of_le (Nat.mod_lt _ (Nat.pos_of_ne_zero HM.out)) (Nat.le_of_lt HBD.out.2.1)⟩, Lib.hid ⟨HN.out.2.2.1, HN.out.2.2.2, by show (World.drew _).frozen? _ = false; rw [show ∀ W : World, ∀ p, W.drew.frozen? p = W.frozen? p from fun _ _ => rfl, World.frozen?_setCell, World.frozen?_setCell, World.frozen?_setCell, World.frozen?_setCell]; exact HRR7.out.2.2.1, by show (World.drew _).frozen? _ = false; rw [show ∀ W : World, ∀ p, W.drew.frozen? p = W.frozen? p from fun _ _ => rfl, World.frozen?_setCell, World.frozen?_setCell, World.frozen?_setCell, World.frozen?_setCell]; exact HRR7.out.2.2.2⟩, hBN.drew⟩
end Go.Proofs.YtbmaffijncapiaaGreatDoor

/- matrix's laws: the numbers that come in, as the reference's; Fits; both. -/
namespace Go.Proofs.YtbmaffijncapiaaGreatDoor
open Num
open Go.ChangeShapes Go.WideShapes Go.ChangeAt Go.RowKit
set_option linter.unusedVariables false
set_option linter.unusedSimpArgs false
attribute [local go_sem ↓] Go.wp_at_zero Go.wp_at_succ
theorem elRw5 : Elt Tryz.prog 110 56 2 32 := Elt.mk' Tryz.underlying110 infoRef rfl (by decide) (by decide)
set_option maxRecDepth 100000 in
set_option maxHeartbeats 4000000 in
theorem ref5_c (v : Value) (l : List Int) (w : World) (hv : RowI w v l) (hl : l.length ≤ 1099511627000) :
    Calls Tryz.prog 79 #[v] w fun e w' => (∃ v', e = .returned v' ∧ RowO IsRef 56 w.heap.size w' v' l) ∧ Below w.heap.size w w' := by
  obtain ⟨ra, rc, rfl, hr⟩ := hv
  have HR := Lib.hid hr
  clear hr
  have hB := Below.refl w.heap.size w
  go_enter Tryz.func79, Tryz.ntmps79
  go_wp2
  go_loopw [3, 8] (fun v x wr => ∃ j : Nat, j ≤ l.length ∧ x = .int .i64 j ∧ Hid (OwnF IsRef 56 w wr v j (fun i => l.getD i 0))) (fun _ x _ => l.length - (intOf x).toNat)
  case atStart => exact ⟨0, Nat.zero_le _, rfl, Lib.hid (OwnF.nil _ _ _ hB)⟩
  case round =>
    obtain ⟨j, hj, rfl, hF⟩ := hrel
    obtain ⟨fa, fc, hfv⟩ : ∃ a c, _ = Value.slice a j c := by obtain ⟨a, c, h, _⟩ := hF.out.view; exact ⟨a, c, h⟩
    subst hfv
    by_cases hlt2 : j < l.length
    · have hltJ : (j : Int) < (l.length : Int) := by omega
      obtain ⟨rb, ro, rfl, hc, hI⟩ := HR.out j hlt2
      have hc2 := bkeep hF.out.bel hc
      have zc := cell_lt hc2
      have oc := fun W => rof_c (l.getD j 0) W hI.1 hI.2
      have HSN := Lib.hid (snoc_fun l j hlt2)
      obtain ⟨z, hz⟩ : ∃ z, l.getD j 0 = z := ⟨_, rfl⟩
      rw [hz] at hc2 oc HSN
      clear hc hI hz
      go_wp2_with fail
      refine (oc _).mono ?_
      rintro e w5 ⟨⟨v5, rfl, hi5⟩, hb5⟩
      have HF5 := Lib.hid (hF.out.below lims_ref hb5)
      have HI5 := Lib.hid hi5
      obtain ⟨n5, a5, c5, l5, rfl, -⟩ := hi5
      unfold iv at *
      clear oc
      go_wp2_with (at_builtin; refine app_num elRw5 (by decide) lims_ref (by rfl) (by rfl) HF5.out HI5.out (by rfl) (by rfl) (by omega) ?_)
      intro v' w8 hF8 _ _
      have HF8 := Lib.hid (hF8.congr' HSN.out)
      clear hF8
      go_wp2
      exact ⟨⟨j + 1, hlt2, by go_num, HF8⟩, meas hlt2 (by go_num) rfl⟩
    · obtain rfl : j = l.length := by omega
      have HRO := Lib.hid hF.out.rowO
      have hBr := hF.out.bel
      go_wp2
      go_ret
      exact ⟨⟨_, rfl, HRO.out⟩, hBr⟩
set_option maxRecDepth 100000 in
set_option maxHeartbeats 4000000 in
theorem grid5_c (v : Value) (g : Grid) (w : World) (hv : GridI w v g) (hg : g.length ≤ 1048576) (hl : ∀ k, k < g.length → (g.getD k []).length ≤ 1048576) :
    Calls Tryz.prog 144 #[v] w fun e w' => (∃ u, e = .returned u ∧ OwnL 110 (RowO IsRef 56 w.heap.size) w w' u g) ∧ Below w.heap.size w w' := by
  obtain ⟨ga, gc, rfl, hv⟩ := hv
  have HV := Lib.hid hv
  have HL := Lib.hid hl
  clear hv hl
  have hB := Below.refl w.heap.size w
  go_enter Tryz.func144, Tryz.ntmps144
  go_wp2
  go_loopw [3, 8] (fun v x wr => ∃ k : Nat, k ≤ g.length ∧ x = .int .i64 k ∧ Hid (OwnL 110 (RowO IsRef 56 w.heap.size) w wr v (g.take k))) (fun _ x _ => g.length - (intOf x).toNat)
  case atStart => exact ⟨0, Nat.zero_le _, rfl, Lib.hid (OwnL.nil _ _ hB)⟩
  case round =>
    obtain ⟨k, hk, rfl, hO⟩ := hrel
    have hBr := hO.out.bel
    have hlen : (g.take k).length = k := by rw [List.length_take]; omega
    have HLEN := Lib.hid hlen
    obtain ⟨va, vc, hvv⟩ := hO.out.ex
    rw [hlen] at hvv
    subst hvv
    clear hlen
    by_cases hlt : k < g.length
    · have hltI : (k : Int) < (g.length : Int) := by omega
      obtain ⟨gb, go, u, rfl, hu, hrow⟩ := HV.out k hlt
      have hr2 := hrow.keep hBr
      obtain ⟨ra, rc, rfl, -⟩ := hrow
      have hl3 := HL.out k hlt
      have HT := Lib.hid (take_getD [] hlt)
      have hu2 := bkeep hBr hu
      obtain ⟨l, hle⟩ : ∃ l, g.getD k [] = l := ⟨_, rfl⟩
      rw [hle] at hr2 hu2 hl3 HT
      have zu := cell_lt hu2
      have lc := fun W (q : Below wr.heap.size wr W) => ref5_c (.slice ra l.length rc) l W (hr2.keep q) (by omega)
      have LC := Lib.hid lc
      have hLL : ((g.take k).length + 1) * 24 ≤ 140737488355328 := by rw [HLEN.out]; omega
      have hLM : (g.take k).length + 1 ≤ maxLen := by rw [HLEN.out]; unfold maxLen; omega
      have hBw := Below.refl wr.heap.size wr
      clear hu hr2 hle lc
      go_wp2_with fail
      (with_reducible refine (LC.out _ ?_).mono ?_); (repeat (first|exact bzR _ _|exact hBw|refine bzD ?_|refine bzN ?_|refine bzS ?_|refine bzA ?_))
      rintro e w5 ⟨⟨v5, rfl, hr5⟩, hb5⟩
      have hb5' : Below wr.heap.size wr w5 := bthen (by repeat (first|exact bzR _ _|exact hBw|refine bzD ?_|refine bzN ?_|refine bzS ?_|refine bzA ?_)) hb5
      have HR5 := Lib.hid (show RowO IsRef 56 w.heap.size w5 v5 l from hr5.rebase (show w.heap.size ≤ _ from Nat.le_trans hBr.size (show Below wr.heap.size wr _ by repeat (first|exact bzR _ _|exact hBw|refine bzD ?_|refine bzN ?_|refine bzS ?_|refine bzA ?_)).size))
      have HO5 := Lib.hid (hO.out.below (prs_rowO lims_ref _ _) hb5')
      obtain ⟨a5, c5, rfl⟩ := hr5.ex
      clear LC hr5 hb5 hO
      go_wp2_with (at_builtin; refine appL elMat (prs_rowO lims_ref _ _) (by decide) (by rfl) (by rfl) (HO5.out.below (prs_rowO lims_ref _ _) (bal (Below.refl _ _) _)) (HR5.out.keep lims_ref (bal (Below.refl _ _) _)) (by rfl) (by rfl) (cell_new (by simp) rfl) hLL hLM ?_)
      intro v' w8 hO8 hk8
      have HO8 := Lib.hid hO8
      rw [← HT.out] at HO8
      clear hO8 hk8
      go_wp2
      exact ⟨⟨k + 1, hlt, by go_num, HO8⟩, meas hlt (by go_num) rfl⟩
    · obtain rfl : k = g.length := by omega
      rw [List.take_length] at hO
      go_wp2
      go_ret
      exact ⟨⟨_, rfl, hO.out⟩, hBr⟩
theorem gridRef {w0 w : World} {v : Value} {g : Grid} {base : Nat} (h : OwnL 110 (RowO IsRef 56 base) w0 w v g) : RefM w v g :=
  (h.isL.mono fun u x h => h.row.rebase (Nat.zero_le _)).rebase (Nat.zero_le _)
end Go.Proofs.YtbmaffijncapiaaGreatDoor

