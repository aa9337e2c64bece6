/- Texts of this seat, laid together: DnQ, DnR, DnU. Each opens with its own remark, which says what it proves, and under which conditions. -/
import Derived.Test.YtbmaffijncapiaaGreatDoorL29
import Derived.Test.YtbmaffijncapiaaGreatDoorL28
import Derived.Test.YtbmaffijncapiaaGreatDoorL26
import Derived.Test.YtbmaffijncapiaaGreatDoorL17
import Derived.Test.YtbmaffijncapiaaGreatDoorL23
set_option linter.unusedVariables false
set_option linter.unusedSimpArgs false
/- denote: Matrix: what a program denotes, over one number. -/
namespace Go.Proofs.YtbmaffijncapiaaGreatDoor
open Num
open Go.ChangeShapes Go.WideShapes Go.ChangeAt Go.RowKit
set_option linter.unusedVariables false
set_option linter.unusedSimpArgs false
attribute [local go_sem ↓] Go.wp_at_zero Go.wp_at_succ
theorem flatF_len {m : Nat} : ∀ {F : GridF}, RectF m F → F.flatten.length = F.length * m
  | [], _ => by simp
  | r :: F, h => by
    have h0 : r.length = m := h 0 (by simp)
    have h1 : RectF m F := fun i hi => h (i + 1) (by simpa using hi)
    rw [List.flatten_cons, List.length_append, flatF_len h1, h0, List.length_cons, Nat.add_mul, Nat.one_mul, Nat.add_comm]
theorem flatF_get {m : Nat} : ∀ {F : GridF}, RectF m F → ∀ {i j : Nat}, i < F.length → j < m → F.flatten.getD (i * m + j) 0 = (F.getD i []).getD j 0
  | [], _, i, j, hi, _ => absurd hi (by simp)
  | r :: F, h, i, j, hi, hj => by
    have h0 : r.length = m := h 0 (by simp)
    have h1 : RectF m F := fun i hi => h (i + 1) (by simpa using hi)
    rw [List.flatten_cons]
    cases i with
    | zero => rw [Nat.zero_mul, Nat.zero_add, appq_lt (by omega)]; simp
    | succ i =>
      have e : (i + 1) * m + j = m + (i * m + j) := by rw [Nat.add_mul, Nat.one_mul]; omega
      rw [appq_ge (by omega), e, h0, Nat.add_sub_cancel_left, flatF_get h1 (by simpa using hi) hj]; simp
theorem flatF_bd {k m : Nat} {F : GridF} (hr : RectF m F) (hb : BdF k F) : ∀ t, t < F.flatten.length → BdQ k (F.flatten.getD t 0) := by
  intro t ht
  rw [flatF_len hr] at ht
  have hm : 0 < m := by rcases Nat.eq_zero_or_pos m with h | h; subst h; simp at ht; exact h
  have hi : t / m < F.length := (Nat.div_lt_iff_lt_mul hm).2 ht
  have hj := Nat.mod_lt t hm
  have e : t = t / m * m + t % m := by rw [Nat.mul_comm]; exact (Nat.div_add_mod t m).symm
  rw [e, flatF_get hr hi hj]
  exact hb _ hi _ (by rw [hr _ hi]; exact hj)
def matD (F : GridF) : Int := comD F.flatten
def matG (F : GridF) : Grid := F.map fun r => r.map fun q => q.num * (matD F / (q.den : Int))
theorem matG_len (F : GridF) : (matG F).length = F.length := by simp [matG]
theorem matG_row {F : GridF} {i : Nat} (h : i < F.length) : (matG F).getD i [] = (F.getD i []).map fun q => q.num * (matD F / (q.den : Int)) := by simp [matG, h]
theorem matG_rct {F : GridF} {m : Nat} (hr : RectF m F) : Rct (matG F) m := fun i hi => by
  rw [matG_len] at hi
  rw [matG_row hi, List.length_map]; exact hr i hi
theorem map_getDq {r : List Rat} {f : Rat → Int} {j : Nat} (h : j < r.length) : (r.map f).getD j 0 = f (r.getD j 0) := by simp [h]
theorem matG_at {F : GridF} {m i j : Nat} (hr : RectF m F) (hi : i < F.length) (hj : j < m) : gat (matG F) i j = ((F.getD i []).getD j 0).num * (matD F / (((F.getD i []).getD j 0).den : Int)) := by
  have hl := hr i hi
  unfold gat
  rw [matG_row hi, map_getDq (by omega)]
theorem gat_far {g : Grid} {i j : Nat} (h : g.length ≤ i ∨ (g.getD i []).length ≤ j) : gat g i j = 0 := by
  unfold gat
  rcases h with h | h
  · have : g.getD i [] = [] := by simp [List.getD_eq_getElem?_getD, List.getElem?_eq_none h]
    rw [this]; rfl
  · simp [List.getD_eq_getElem?_getD] at h ⊢
    rw [List.getElem?_eq_none h]; rfl
theorem matG_bd {F : GridF} {m k : Nat} (hr : RectF m F) (hb : BdF k F) : BdM (k + (k * (F.length * m) + 1)) (matG F) := fun i j => by
  by_cases hi : i < F.length
  · by_cases hj : j < m
    · rw [matG_at hr hi hj]
      have h1 := hb i hi j (by rw [hr i hi]; exact hj)
      have h2 := (comD_bd (flatF_bd hr hb) F.flatten.length (Nat.le_refl _)).2
      rw [List.take_length, flatF_len hr] at h2
      exact Bd.mul h1.1 (bd_ediv h2 _)
    · rw [gat_far (.inr (by rw [matG_rct hr i (by rw [matG_len]; exact hi)]; omega))]
      unfold Bd; exact Nat.two_pow_pos _
  · rw [gat_far (.inl (by rw [matG_len]; omega))]
    unfold Bd; exact Nat.two_pow_pos _
theorem chunk_rows {B m N base : Nat} {f : Nat → Int} {w : World} {v : Value} {g : Grid} (h : IsL 68 (PCh B m) base w v (List.range N)) (hi : IntsF IsInt w B 0 (N * m) f) (ht : typOf w B = some 50) (hg : g.length = N) (hr : Rct g m) (hm : m ≤ 65536) (he : ∀ i j, i < N → j < m → gat g i j = f (i * m + j)) :
    IsL 68 (PRow 0) 0 w v g := by
  obtain ⟨a, c, h1, h2, h3, h4⟩ := h
  rw [List.length_range] at h1 h2
  refine ⟨a, c, by rw [hg]; exact h1, by omega, h3, ?_⟩
  rcases h4 with h4 | ⟨b, off, e, hb, ht', hi'⟩
  · left
    have := congrArg List.length h4
    rw [List.length_range] at this
    exact List.length_eq_zero_iff.1 (by rw [hg]; simpa using this)
  · refine .inr ⟨b, off, e, Nat.zero_le _, ht', fun k hk => ?_⟩
    have hkN : k < N := by omega
    obtain ⟨u, hu, hp⟩ := hi' k (by rw [List.length_range]; exact hkN)
    have hp2 : u = .slice (some ⟨B, k * m * 2, none⟩) m m := by rw [List.getElem_range] at hp; exact hp
    have hgk : g[k] = g.getD k [] := by simp [hk]
    have hlen := hr k hk
    refine ⟨u, hu, _, m, by rw [hp2, hgk, hlen], by rw [hgk, hlen]; exact Nat.le_refl _, by unfold maxLen; omega, .inr ⟨B, k * m * 2, rfl, Nat.zero_le _, ht, fun j hj => ?_⟩⟩
    rw [hgk, hlen] at hj
    obtain ⟨nb, ad, ln, cp, k1, k2, k3⟩ := hi (k * m + j) (by have := mul_step (m := m) hkN; omega)
    refine ⟨nb, ad, ln, cp, ?_, ?_, ?_⟩
    · rw [← k1]; congr 2; rw [Nat.add_mul]; omega
    · rw [← k2]; congr 2; rw [Nat.add_mul]; omega
    · have := he k j hkN hj
      unfold gat at this
      show IsInt w _ ((g[k]).getD j 0)
      rw [hgk, this]; exact k3
theorem FRow.psq {base : Nat} {w : World} {u : Value} {l : List Rat} (h : FRow base w u l) (hl : 0 < l.length) : PSq w u l := by
  obtain ⟨a, c, e, hc, h4⟩ := h
  rcases h4 with h4 | ⟨b, off, e2, hb, ht, hi⟩
  · rw [h4] at hl; simp at hl
  · exact ⟨b, off, c, by rw [e, e2], ht, hi⟩
theorem IsL.psqs {base : Nat} {w : World} {v : Value} {g : GridF} {m : Nat} (h : IsL 38 (FRow base) 0 w v g) (hr : RectF m g) (hm : 0 < m) : IsL 38 PSq 0 w v g := by
  obtain ⟨a, c, h1, h2, h3, h4⟩ := h
  refine ⟨a, c, h1, h2, h3, h4.imp id ?_⟩
  rintro ⟨b, off, e, hb, ht, hi⟩
  refine ⟨b, off, e, hb, ht, fun k hk => ?_⟩
  obtain ⟨u, hu, hp⟩ := hi k hk
  have : (g[k]'hk).length = m := by have := hr k hk; simpa [hk] using this
  exact ⟨u, hu, hp.psq (by rw [this]; exact hm)⟩
def MatNo (ins regs : Int) (code : List Ins) (outs : List Int) (q : Int) : Prop := (¬ ProgOk ins regs code outs ∧ q = 80) ∨ (ProgOk ins regs code outs ∧ endF ins regs code = none ∧ q = 3) ∨ (ProgOk ins regs code outs ∧ (∃ h, endF ins regs code = some h) ∧ (16 < ins ∨ 16 < outs.length) ∧ q = 5)
def MatRes (ins regs : Int) (code : List Ins) (outs : List Int) (w' : World) (v u : Value) (q : Int) : Prop :=
  (MatNo ins regs code outs q ∧ v = .agg #[.slice none 0 0] ∧ u = .agg #[.bool false, .slice none 0 0]) ∨
  (ProgOk ins regs code outs ∧ ins ≤ 16 ∧ outs.length ≤ 16 ∧ q = 0 ∧ ∃ h, endF ins regs code = some h ∧ Mt 17000000 (matG (outsF outs h)) v w' ∧ IsInt w' u (matD (outsF outs h)))
def MatPost (ins regs : Int) (code : List Ins) (outs : List Int) (w : World) (e : Ending) (w' : World) : Prop := (∃ v u q, e = .returned (.tuple #[v, u, .int .i64 q]) ∧ MatRes ins regs code outs w' v u q) ∧ Below w.heap.size w w'
theorem MatPost.no {ins regs : Int} {code : List Ins} {outs : List Int} {w w' : World} {q : Int} (h : MatNo ins regs code outs q) (hb : Below w.heap.size w w') :
    MatPost ins regs code outs w (.returned (.tuple #[.agg #[.slice none 0 0], .agg #[.bool false, .slice none 0 0], .int .i64 q])) w' := ⟨⟨_, _, _, rfl, .inl ⟨h, rfl, rfl⟩⟩, hb⟩
theorem MatPost.yes {ins regs : Int} {code : List Ins} {outs : List Int} {w w' : World} {v u : Value} {h : GridF} (h1 : ProgOk ins regs code outs) (h2 : ins ≤ 16) (h3 : outs.length ≤ 16) (h4 : endF ins regs code = some h) (h5 : Mt 17000000 (matG (outsF outs h)) v w') (h6 : IsInt w' u (matD (outsF outs h))) (hb : Below w.heap.size w w') :
    MatPost ins regs code outs w (.returned (.tuple #[v, u, .int .i64 0])) w' := ⟨⟨_, _, _, rfl, .inr ⟨h1, h2, h3, rfl, h, h4, h5, h6⟩⟩, hb⟩
theorem mat_facts {ins regs : Int} {code : List Ins} {outs : List Int} {h : GridF} (hok : ProgOk ins regs code outs) (e : endF ins regs code = some h) (h16 : ins ≤ 16) (o16 : outs.length ≤ 16) :
    RectF ins.toNat (outsF outs h) ∧ BdF 65536 (outsF outs h) ∧ (outsF outs h).length = outs.length ∧ (outsF outs h).flatten.length = outs.length * ins.toNat ∧ outs.length * ins.toNat ≤ 256 ∧ 0 < outs.length * ins.toNat := by
  obtain ⟨h1, h2⟩ := endF_ok hok e
  refine ⟨h1, slimG_bd h2, outsF_len _ _, by rw [flatF_len h1, outsF_len], ?_, ?_⟩
  · have := Nat.mul_le_mul o16 (show ins.toNat ≤ 16 by omega); omega
  · exact Nat.mul_pos hok.o1 (by have := hok.i1; omega)
theorem matG_mt {F : GridF} {m : Nat} {v : Value} {w : World} (hr : RectF m F) (hb : BdF 65536 F) (h1 : 0 < m) (h2 : m ≤ 16) (h3 : 0 < F.length) (h4 : F.length ≤ 16) (hv : IsM 0 w v (matG F)) : Mt 17000000 (matG F) v w := by
  have hc : cols (matG F) = m := (matG_rct hr).cols (by rw [matG_len]; exact h3)
  refine ⟨hv, by rw [hc]; exact matG_rct hr, by rw [hc, matG_len]; omega, (matG_bd hr hb).mono ?_⟩
  have := Nat.mul_le_mul h4 h2
  have := Nat.mul_le_mul_left 65536 this
  omega
theorem matG_fits {F : GridF} {m : Nat} (hr : RectF m F) (h1 : 0 < m) (h2 : m ≤ 16) (h3 : 0 < F.length) (h4 : F.length ≤ 16) : fitsE (matG F) = 0 := by
  have hc : cols (matG F) = m := (matG_rct hr).cols (by rw [matG_len]; exact h3)
  unfold fitsE
  rw [hc, if_neg (by rw [matG_len]; omega), if_neg (by rw [matG_len]; omega), if_pos (show ∀ i, i < (matG F).length → ((matG F).getD i []).length = m from matG_rct hr)]
end Go.Proofs.YtbmaffijncapiaaGreatDoor

/- denote: Matrix: the walk. -/
namespace Go.Proofs.YtbmaffijncapiaaGreatDoor
open Num
open Go.ChangeShapes Go.WideShapes Go.ChangeAt Go.RowKit
set_option linter.unusedVariables false
set_option linter.unusedSimpArgs false
attribute [local go_sem ↓] Go.wp_at_zero Go.wp_at_succ
set_option maxRecDepth 100000 in
set_option maxHeartbeats 16000000 in
theorem matrix_c (ins regs : Int) (ca oa : Option Addr) (cc oc : Nat) (code : List Ins) (outs : List Int) (w : World) (hc : InsV w ca cc code) (ho : IntsV w oa oc outs) :
    Calls Tryz.prog 23 #[.agg #[.int .i64 ins, .int .i64 regs, .slice ca code.length cc, .slice oa outs.length oc]] w (MatPost ins regs code outs w) := by
  have HC := Lib.hid (And.intro hc ho)
  clear hc ho
  have hB := Below.refl w.heap.size w
  by_cases hp : ProgOk ins regs code outs
  · have HP := Lib.hid hp
    cases he : endF ins regs code with
    | none =>
      have HR := Lib.hid (show MatNo ins regs code outs 3 from .inr (.inl ⟨hp, he, rfl⟩))
      have RC := Lib.hid (fun V (q : Below w.heap.size w V) => rows_wide (HC.out.1.keep q) (HC.out.2.keep q) hp he)
      clear hp he
      go_enter Tryz.func23, Tryz.ntmps23
      go_wp2_with fail
      (with_reducible refine (RC.out _ ?_).mono ?_); (repeat (first|exact bzR _ _|exact hB|refine bzD ?_|refine bzN ?_|refine bzS ?_|refine bzA ?_))
      rintro e w1 ⟨rfl, hb1⟩
      have p0 : w1.cell? ⟨w.heap.size, 0, none⟩ = some (.int .i64 ins) := bkc hb1
      have zp0 := cell_lt p0
      have m0 : w1.cell? ⟨w.heap.size + 1, 0, none⟩ = some (.slice none 0 0) := bkc hb1
      have zm0 := cell_lt m0
      have m0f : w1.frozen? ⟨w.heap.size + 1, 0, none⟩ = false := bkcf (v := .slice none 0 0) hb1
      have d0 : w1.cell? ⟨w.heap.size + 1 + 1, 0, none⟩ = some (.bool false) := bkc hb1
      have zd0 := cell_lt d0
      have d0f : w1.frozen? ⟨w.heap.size + 1 + 1, 0, none⟩ = false := bkcf (v := .bool false) hb1
      have d1 : w1.cell? ⟨w.heap.size + 1 + 1, 1, none⟩ = some (.slice none 0 0) := bkc hb1
      have d1f : w1.frozen? ⟨w.heap.size + 1 + 1, 1, none⟩ = false := bkcf (v := .slice none 0 0) hb1
      have hB : Below w.heap.size w w1 := bthen (by repeat (first|exact bzR _ _|exact hB|refine bzD ?_|refine bzN ?_|refine bzS ?_|refine bzA ?_)) hb1
      have hz : w.heap.size ≤ w1.heap.size := hB.size
      clear RC
      go_wp2
      refine bodyPost_ret (v := .tuple #[.agg #[.slice none 0 0], .agg #[.bool false, .slice none 0 0], .int .i64 3]) (by simp [results, Tryz.results23, go_sem, *]) rfl (MatPost.no HR.out ?_)
      repeat (first|exact bzR _ _|exact hB|refine bzD ?_|refine bzN ?_|refine bzS ?_|refine bzA ?_)
    | some h =>
      have RC := Lib.hid (fun V (q : Below w.heap.size w V) => rows_yes (HC.out.1.keep q) (HC.out.2.keep q) hp he)
      have HE := Lib.hid he
      have HPR := Lib.hid hp
      have HF := Lib.hid (fun h16 o16 => mat_facts hp he h16 o16)
      have HPY := Lib.hid (fun w' v u h16 o16 h5 h6 hb => MatPost.yes (w := w) (w' := w') (v := v) (u := u) hp h16 o16 he h5 h6 hb)
      have HFL := Lib.hid (outsF_len outs h)
      obtain ⟨F, hF⟩ : ∃ F, outsF outs h = F := ⟨_, rfl⟩
      rw [hF] at RC HF HPY HFL
      obtain ⟨O, hO⟩ : ∃ O, outs.length = O := ⟨_, rfl⟩
      have HO := Lib.hid hO
      have hO1 := hp.o1
      have hO2 := hp.o2
      have hi1 := hp.i1
      rw [hO] at hO1 hO2
      clear hp he hF hO
      go_enter Tryz.func23, Tryz.ntmps23
      go_wp2_with fail
      (with_reducible refine (RC.out _ ?_).mono ?_); (repeat (first|exact bzR _ _|exact hB|refine bzD ?_|refine bzN ?_|refine bzS ?_|refine bzA ?_))
      rintro e w1 ⟨⟨v1, rfl, hv1⟩, hb1⟩
      have p0 : w1.cell? ⟨w.heap.size, 0, none⟩ = some (.int .i64 ins) := bkc hb1
      have zp0 := cell_lt p0
      have m0 : w1.cell? ⟨w.heap.size + 1, 0, none⟩ = some (.slice none 0 0) := bkc hb1
      have zm0 := cell_lt m0
      have m0f : w1.frozen? ⟨w.heap.size + 1, 0, none⟩ = false := bkcf (v := .slice none 0 0) hb1
      have d0 : w1.cell? ⟨w.heap.size + 1 + 1, 0, none⟩ = some (.bool false) := bkc hb1
      have zd0 := cell_lt d0
      have d0f : w1.frozen? ⟨w.heap.size + 1 + 1, 0, none⟩ = false := bkcf (v := .bool false) hb1
      have d1 : w1.cell? ⟨w.heap.size + 1 + 1, 1, none⟩ = some (.slice none 0 0) := bkc hb1
      have d1f : w1.frozen? ⟨w.heap.size + 1 + 1, 1, none⟩ = false := bkcf (v := .slice none 0 0) hb1
      have hB : Below w.heap.size w w1 := bthen (by repeat (first|exact bzR _ _|exact hB|refine bzD ?_|refine bzN ?_|refine bzS ?_|refine bzA ?_)) hb1
      have hz : w.heap.size ≤ w1.heap.size := hB.size
      have HV1 := Lib.hid (ownP_isL0 hv1)
      obtain ⟨a1, c1, rfl⟩ := hv1.ex
      rw [HFL.out, HO.out] at HV1 ⊢
      clear RC hv1
      by_cases h16 : ins ≤ 16
      · have h16d : decide (ins > 16) = false := by simpa using h16
        by_cases o16 : O ≤ 16
        · have o16d : decide ((O : Int) > 16) = false := by simp; omega
          obtain ⟨m, rfl⟩ : ∃ m : Nat, ins = m := ⟨ins.toNat, by omega⟩
          have HFF := Lib.hid (HF.out h16 (by rw [HO.out]; exact o16))
          have HY := Lib.hid (fun w' v u => HPY.out w' v u h16 (by rw [HO.out]; exact o16))
          rw [Int.toNat_natCast, HO.out] at HFF
          have hm1 : 1 ≤ m := by omega
          have hm16 : m ≤ 16 := by omega
          have hT := HFF.out.2.2.2.2.1
          have hT0 := HFF.out.2.2.2.2.2
          have CQ := Lib.hid (fun V (q : Below w1.heap.size w1 V) => concatQ_c (.slice a1 O c1) F V ((HV1.out.psqs HFF.out.1 hm1).keep prs_psq q) (by rw [HFF.out.2.2.2.1]; exact hT0) (by rw [HFF.out.2.2.2.1]; omega) (by rw [HFF.out.2.2.1]; omega))
          obtain ⟨T, hTE⟩ : ∃ T, O * m = T := ⟨_, rfl⟩
          have HT := Lib.hid hTE
          rw [hTE] at hT hT0
          have hBw := Below.refl w1.heap.size w1
          clear HF HPY hTE
          go_wp2_with fail
          (with_reducible refine (CQ.out _ ?_).mono ?_); (repeat (first|exact bzR _ _|exact hBw|refine bzD ?_|refine bzN ?_|refine bzS ?_|refine bzA ?_))
          rintro e w2 ⟨⟨v2, rfl, hv2⟩, hb2⟩
          have p0 : w2.cell? ⟨w.heap.size, 0, none⟩ = some (.int .i64 (m : Int)) := bkc hb2
          have zp0 := cell_lt p0
          have m0 : w2.cell? ⟨w.heap.size + 1, 0, none⟩ = some (.slice none 0 0) := bkc hb2
          have zm0 := cell_lt m0
          have m0f : w2.frozen? ⟨w.heap.size + 1, 0, none⟩ = false := bkcf (v := .slice none 0 0) hb2
          have d0 : w2.cell? ⟨w.heap.size + 1 + 1, 0, none⟩ = some (.bool false) := bkc hb2
          have zd0 := cell_lt d0
          have d0f : w2.frozen? ⟨w.heap.size + 1 + 1, 0, none⟩ = false := bkcf (v := .bool false) hb2
          have d1 : w2.cell? ⟨w.heap.size + 1 + 1, 1, none⟩ = some (.slice none 0 0) := bkc hb2
          have d1f : w2.frozen? ⟨w.heap.size + 1 + 1, 1, none⟩ = false := bkcf (v := .slice none 0 0) hb2
          have hB : Below w.heap.size w w2 := bthen (by repeat (first|exact bzR _ _|exact hB|refine bzD ?_|refine bzN ?_|refine bzS ?_|refine bzA ?_)) hb2
          have hz : w.heap.size ≤ w2.heap.size := hB.size
          have HV2 := Lib.hid hv2
          have CC := Lib.hid (fun V (q : Below w2.heap.size w2 V) => common_c v2 F.flatten 65536 V ((FRow.keep hv2.row q).rebase (Nat.zero_le _)) (flatF_bd HFF.out.1 HFF.out.2.1) (by rw [HFF.out.2.2.2.1, HT.out]; exact hT0) (by rw [HFF.out.2.2.2.1, HT.out]; omega) (by rw [HFF.out.2.2.2.1, HT.out]; omega))
          obtain ⟨a2, c2, hv2e⟩ := hv2.ex
          rw [HFF.out.2.2.2.1, HT.out] at hv2e CC
          subst hv2e
          have hBx := Below.refl w2.heap.size w2
          clear CQ hv2 hBw
          go_wp2_with fail
          (with_reducible refine (CC.out _ ?_).mono ?_); (repeat (first|exact bzR _ _|exact hBx|refine bzD ?_|refine bzN ?_|refine bzS ?_|refine bzA ?_))
          rintro e w3 ⟨⟨u3, x3, rfl, hx3, hu3⟩, hb3⟩
          have p0 : w3.cell? ⟨w.heap.size, 0, none⟩ = some (.int .i64 (m : Int)) := bkc hb3
          have zp0 := cell_lt p0
          have m0 : w3.cell? ⟨w.heap.size + 1, 0, none⟩ = some (.slice none 0 0) := bkc hb3
          have zm0 := cell_lt m0
          have m0f : w3.frozen? ⟨w.heap.size + 1, 0, none⟩ = false := bkcf (v := .slice none 0 0) hb3
          have d0 : w3.cell? ⟨w.heap.size + 1 + 1, 0, none⟩ = some (.bool false) := bkc hb3
          have zd0 := cell_lt d0
          have d0f : w3.frozen? ⟨w.heap.size + 1 + 1, 0, none⟩ = false := bkcf (v := .bool false) hb3
          have d1 : w3.cell? ⟨w.heap.size + 1 + 1, 1, none⟩ = some (.slice none 0 0) := bkc hb3
          have d1f : w3.frozen? ⟨w.heap.size + 1 + 1, 1, none⟩ = false := bkcf (v := .slice none 0 0) hb3
          have hB : Below w.heap.size w w3 := bthen (by repeat (first|exact bzR _ _|exact hB|refine bzD ?_|refine bzN ?_|refine bzS ?_|refine bzA ?_)) hb3
          have hz : w.heap.size ≤ w3.heap.size := hB.size
          have HX3 := Lib.hid hx3
          obtain ⟨nb3, na3, nl3, nc3, rfl⟩ := hx3.lit
          obtain ⟨B, c3, rfl, hc3, hcm3, hB3, ht3, hi3⟩ := hu3
          have HI3 := Lib.hid hi3
          have HCH := Lib.hid (fun V => chunk_c B O m c3 T V HT.out.symm hm1)
          have hBy := Below.refl w3.heap.size w3
          clear CC hx3 hi3 hBx
          go_wp2_with fail
          (with_reducible refine (HCH.out _).mono ?_)
          rintro e w4 ⟨⟨sb, nb, rfl, hsb0, hnb0, hsb, hnb, hch⟩, hb4⟩
          have h34 : Below w3.heap.size w3 w4 := bthen (by repeat (first|exact bzR _ _|exact hBy|refine bzD ?_|refine bzN ?_|refine bzS ?_|refine bzA ?_)) hb4
          have x0 : w4.cell? ⟨w3.heap.size, 0, none⟩ = some (.bool nb3) := bkeep hb4 (cell_new rfl rfl)
          have x1 : w4.cell? ⟨w3.heap.size, 1, none⟩ = some (.slice na3 nl3 nc3) := bkeep hb4 (cell_new rfl rfl)
          have p0 : w4.cell? ⟨w.heap.size, 0, none⟩ = some (.int .i64 (m : Int)) := bkc hb4
          have zp0 := cell_lt p0
          have m0 : w4.cell? ⟨w.heap.size + 1, 0, none⟩ = some (.slice none 0 0) := bkc hb4
          have zm0 := cell_lt m0
          have m0f : w4.frozen? ⟨w.heap.size + 1, 0, none⟩ = false := bkcf (v := .slice none 0 0) hb4
          have d0 : w4.cell? ⟨w.heap.size + 1 + 1, 0, none⟩ = some (.bool false) := bkc hb4
          have zd0 := cell_lt d0
          have d0f : w4.frozen? ⟨w.heap.size + 1 + 1, 0, none⟩ = false := bkcf (v := .bool false) hb4
          have d1 : w4.cell? ⟨w.heap.size + 1 + 1, 1, none⟩ = some (.slice none 0 0) := bkc hb4
          have d1f : w4.frozen? ⟨w.heap.size + 1 + 1, 1, none⟩ = false := bkcf (v := .slice none 0 0) hb4
          have hB : Below w.heap.size w w4 := bthen (by repeat (first|exact bzR _ _|exact hB|refine bzD ?_|refine bzN ?_|refine bzS ?_|refine bzA ?_)) hb4
          have hz : w.heap.size ≤ w4.heap.size := hB.size
          have CL := Lib.hid (fun V (q : Below w4.heap.size w4 V) => collectR_c 199 #[.pointer (some ⟨sb, 0, none⟩), .pointer (some ⟨nb, 0, none⟩)] B m O (ChIn sb nb B O m c3) V (enters_of Tryz.func199 (by kernel_rfl) rfl)
            (fun n0 S0 hs => chunk_iterD n0 sb nb B O m c3 S0 (fun h => by have := hs sb h; have := q.size; omega) (fun h => by have := hs nb h; have := q.size; omega) hm1 (by omega) (by omega) (by rw [HT.out]; exact hc3) hcm3) (fun W k => ⟨bkeep k (bkeep q hch.1), bkeep k (bkeep q hch.2)⟩) (by omega))
          have hBz := Below.refl w4.heap.size w4
          clear HCH hBy hb4 hsb0 hnb0
          go_wp2_with fail
          (with_reducible refine (CL.out _ ?_).mono ?_); (repeat (first|exact bzR _ _|exact hBz|refine bzD ?_|refine bzN ?_|refine bzS ?_|refine bzA ?_))
          rintro e w5 ⟨⟨a5, c5, rfl, hI5⟩, hb5⟩
          have h45 : Below w4.heap.size w4 w5 := bthen (by repeat (first|exact bzR _ _|exact hBz|refine bzD ?_|refine bzN ?_|refine bzS ?_|refine bzA ?_)) hb5
          have x0 := bkeep h45 x0
          have x1 := bkeep h45 x1
          have p0 : w5.cell? ⟨w.heap.size, 0, none⟩ = some (.int .i64 (m : Int)) := bkc hb5
          have zp0 := cell_lt p0
          have m0 : w5.cell? ⟨w.heap.size + 1, 0, none⟩ = some (.slice none 0 0) := bkc hb5
          have zm0 := cell_lt m0
          have m0f : w5.frozen? ⟨w.heap.size + 1, 0, none⟩ = false := bkcf (v := .slice none 0 0) hb5
          have d0 : w5.cell? ⟨w.heap.size + 1 + 1, 0, none⟩ = some (.bool false) := bkc hb5
          have zd0 := cell_lt d0
          have d0f : w5.frozen? ⟨w.heap.size + 1 + 1, 0, none⟩ = false := bkcf (v := .bool false) hb5
          have d1 : w5.cell? ⟨w.heap.size + 1 + 1, 1, none⟩ = some (.slice none 0 0) := bkc hb5
          have d1f : w5.frozen? ⟨w.heap.size + 1 + 1, 1, none⟩ = false := bkcf (v := .slice none 0 0) hb5
          have hB : Below w.heap.size w w5 := bthen (by repeat (first|exact bzR _ _|exact hB|refine bzD ?_|refine bzN ?_|refine bzS ?_|refine bzA ?_)) hb5
          have hz : w.heap.size ≤ w5.heap.size := hB.size
          have hGL := matG_len F
          rw [HFF.out.2.2.1] at hGL
          have NC := Lib.hid (fun V (q : Below w5.heap.size w5 V) => newM_c (.slice a5 O c5) (matG F) V (IsL.keep (prs_prow 0) (chunk_rows (f := fun i => (F.flatten.getD i 0).num * (comD F.flatten / ((F.flatten.getD i 0).den : Int))) hI5 (by
              rw [HT.out]
              exact fun k hk => (HI3.out.keep lims_int (h34.trans (h45.mono h34.size))) k hk) (typ_keep ht3 (h34.trans (h45.mono h34.size))) hGL (matG_rct HFF.out.1) (by omega) (fun i j hi hj => by
              rw [matG_at HFF.out.1 (by rw [HFF.out.2.2.1]; exact hi) hj]
              show _ = (F.flatten.getD (i * m + j) 0).num * (comD F.flatten / ((F.flatten.getD (i * m + j) 0).den : Int))
              rw [flatF_get HFF.out.1 (by rw [HFF.out.2.2.1]; exact hi) hj]; rfl)) q) (fun i hi => by rw [matG_rct HFF.out.1 i hi]; omega))
          have hBq := Below.refl w5.heap.size w5
          have hfit := matG_fits HFF.out.1 hm1 hm16 (by rw [HFF.out.2.2.1]; exact hO1) (by rw [HFF.out.2.2.1]; exact o16)
          clear CL hb5 hBz hsb hnb hch
          go_wp2_with fail
          (with_reducible refine (NC.out _ ?_).mono ?_); (repeat (first|exact bzR _ _|exact hBq|refine bzD ?_|refine bzN ?_|refine bzS ?_|refine bzA ?_))
          rintro e w6 ⟨(⟨-, v6, rfl, hv6⟩ | ⟨h, -⟩), hb6⟩
          rotate_left
          · exact absurd hfit h
          have h56 : Below w5.heap.size w5 w6 := bthen (by repeat (first|exact bzR _ _|exact hBq|refine bzD ?_|refine bzN ?_|refine bzS ?_|refine bzA ?_)) hb6
          have x0 := bkeep h56 x0
          have x1 := bkeep h56 x1
          have zx0 := cell_lt x0
          have p0 : w6.cell? ⟨w.heap.size, 0, none⟩ = some (.int .i64 (m : Int)) := bkc hb6
          have zp0 := cell_lt p0
          have m0 : w6.cell? ⟨w.heap.size + 1, 0, none⟩ = some (.slice none 0 0) := bkc hb6
          have zm0 := cell_lt m0
          have m0f : w6.frozen? ⟨w.heap.size + 1, 0, none⟩ = false := bkcf (v := .slice none 0 0) hb6
          have d0 : w6.cell? ⟨w.heap.size + 1 + 1, 0, none⟩ = some (.bool false) := bkc hb6
          have zd0 := cell_lt d0
          have d0f : w6.frozen? ⟨w.heap.size + 1 + 1, 0, none⟩ = false := bkcf (v := .bool false) hb6
          have d1 : w6.cell? ⟨w.heap.size + 1 + 1, 1, none⟩ = some (.slice none 0 0) := bkc hb6
          have d1f : w6.frozen? ⟨w.heap.size + 1 + 1, 1, none⟩ = false := bkcf (v := .slice none 0 0) hb6
          have hB : Below w.heap.size w w6 := bthen (by repeat (first|exact bzR _ _|exact hB|refine bzD ?_|refine bzN ?_|refine bzS ?_|refine bzA ?_)) hb6
          have hz : w.heap.size ≤ w6.heap.size := hB.size
          have hMT := matG_mt HFF.out.1 HFF.out.2.1 hm1 hm16 (by rw [HFF.out.2.2.1]; exact hO1) (by rw [HFF.out.2.2.1]; exact o16) (hv6.rebase (Nat.zero_le _))
          have HMT := Lib.hid hMT
          have HM6 := Lib.hid (hv6.rebase (show w5.heap.size ≤ _ from by first | exact Nat.le_refl _ | (simp; done)))
          obtain ⟨a6, c6, hv6e⟩ := hv6.lit
          rw [hGL] at hv6e
          subst hv6e
          have HX6 := Lib.hid (HX3.out.keep (h34.trans ((h45.trans (h56.mono h45.size)).mono h34.size)))
          clear NC hb6 hBq hfit hv6 hMT hI5 hGL
          go_upto_region 10 with (fail)
          refine wp_name fun w7 hW7 => ?_
          have hBr := Below.refl w6.heap.size w6
          have h67 : Below w6.heap.size w6 w7 := by rw [hW7]; repeat (first|exact bzR _ _|exact hBr|refine bzD ?_|refine bzN ?_|refine bzS ?_|refine bzA ?_)
          have y0 : w7.cell? ⟨w6.heap.size, 0, none⟩ = some (.slice a6 O c6) := by rw [hW7]; simp [go_sem]
          have x0 := bkeep h67 x0
          have x1 := bkeep h67 x1
          have m0f := bkeepf h67 m0 m0f
          have m0 := bkeep h67 m0
          have d0f := bkeepf h67 d0 d0f
          have d0 := bkeep h67 d0
          have d1f := bkeepf h67 d1 d1f
          have d1 := bkeep h67 d1
          have zm0 := cell_lt m0
          have zd0 := cell_lt d0
          have zy0 := cell_lt y0
          have zx0 := cell_lt x0
          have hB7 : Below w.heap.size w w7 := bthen hB h67
          have HLM := Lib.hid (show Lim w7 (((w7.setCell ⟨w.heap.size + 1, 0, none⟩ (.slice a6 O c6)).setCell ⟨w.heap.size + 1 + 1, 0, none⟩ (.bool nb3)).setCell ⟨w.heap.size + 1 + 1, 1, none⟩ (.slice na3 nl3 nc3)) from (((Lim.refl w7).slice m0 _).bool (cell_far d0 (by simp) _) _).slice (cell_far (cell_far d1 (by simp) _) (by simp) _) _)
          have HOM := Lib.hid (show Out (fun k => k < w5.heap.size) w7 (((w7.setCell ⟨w.heap.size + 1, 0, none⟩ (.slice a6 O c6)).setCell ⟨w.heap.size + 1 + 1, 0, none⟩ (.bool nb3)).setCell ⟨w.heap.size + 1 + 1, 1, none⟩ (.slice na3 nl3 nc3)) from (((Out.refl _ w7).set (fun _ => (by show w.heap.size + 1 < w5.heap.size; omega)) _).set (fun _ => (by show w.heap.size + 1 + 1 < w5.heap.size; omega)) _).set (fun _ => (by show w.heap.size + 1 + 1 < w5.heap.size; omega)) _)
          have HM9 := Lib.hid (IsM.rebase (IsM.out (IsM.keep HM6.out h67) HOM.out (fun k hk h => absurd h (by omega)) HLM.out) (Nat.zero_le _))
          have HX9 := Lib.hid ((HX6.out.keep h67).lim HLM.out)
          have hb9 := bset (bset (bset hB7 (p := ⟨w.heap.size + 1, 0, none⟩) (by simp) (.slice a6 O c6)) (p := ⟨w.heap.size + 1 + 1, 0, none⟩) (by simp; omega) (.bool nb3)) (p := ⟨w.heap.size + 1 + 1, 1, none⟩) (by simp; omega) (.slice na3 nl3 nc3)
          have n1 : ¬ w3.heap.size = w.heap.size + 1 := by omega
          have n2 : ¬ w3.heap.size = w.heap.size + 1 + 1 := by omega
          clear hW7
          go_region
          go_wp2
          refine bodyPost_ret (v := .tuple #[.agg #[.slice a6 O c6], .agg #[.bool nb3, .slice na3 nl3 nc3], .int .i64 0]) (by simp [results, Tryz.results23, go_sem, *]) rfl (HY.out _ _ _ ⟨HM9.out.keep (Below.refl _ _).drew, HMT.out.rc, HMT.out.sz, HMT.out.bd⟩ (HX9.out.keep (Below.refl _ _).drew) hb9.drew)
        · have HR := Lib.hid (show MatNo ins regs code outs 5 from .inr (.inr ⟨HPR.out, ⟨h, HE.out⟩, .inr (by rw [HO.out]; omega), rfl⟩))
          have o16d : decide ((O : Int) > 16) = true := by simp; omega
          go_wp2
          refine bodyPost_ret (v := .tuple #[.agg #[.slice none 0 0], .agg #[.bool false, .slice none 0 0], .int .i64 5]) (by simp [results, Tryz.results23, go_sem, *]) rfl (MatPost.no HR.out ?_)
          repeat (first|exact bzR _ _|exact hB|refine bzD ?_|refine bzN ?_|refine bzS ?_|refine bzA ?_)
      · have HR := Lib.hid (show MatNo ins regs code outs 5 from .inr (.inr ⟨HPR.out, ⟨h, HE.out⟩, .inl (by omega), rfl⟩))
        have h16d : decide (ins > 16) = true := by simpa using h16
        go_wp2
        refine bodyPost_ret (v := .tuple #[.agg #[.slice none 0 0], .agg #[.bool false, .slice none 0 0], .int .i64 5]) (by simp [results, Tryz.results23, go_sem, *]) rfl (MatPost.no HR.out ?_)
        repeat (first|exact bzR _ _|exact hB|refine bzD ?_|refine bzN ?_|refine bzS ?_|refine bzA ?_)
  · have HR := Lib.hid (show MatNo ins regs code outs 80 from .inl ⟨hp, rfl⟩)
    have RC := Lib.hid (fun V (q : Below w.heap.size w V) => rows_no (HC.out.1.keep q) (HC.out.2.keep q) hp)
    clear hp
    go_enter Tryz.func23, Tryz.ntmps23
    go_wp2_with fail
    (with_reducible refine (RC.out _ ?_).mono ?_); (repeat (first|exact bzR _ _|exact hB|refine bzD ?_|refine bzN ?_|refine bzS ?_|refine bzA ?_))
    rintro e w1 ⟨rfl, hb1⟩
    have p0 : w1.cell? ⟨w.heap.size, 0, none⟩ = some (.int .i64 ins) := bkc hb1
    have zp0 := cell_lt p0
    have m0 : w1.cell? ⟨w.heap.size + 1, 0, none⟩ = some (.slice none 0 0) := bkc hb1
    have zm0 := cell_lt m0
    have m0f : w1.frozen? ⟨w.heap.size + 1, 0, none⟩ = false := bkcf (v := .slice none 0 0) hb1
    have d0 : w1.cell? ⟨w.heap.size + 1 + 1, 0, none⟩ = some (.bool false) := bkc hb1
    have zd0 := cell_lt d0
    have d0f : w1.frozen? ⟨w.heap.size + 1 + 1, 0, none⟩ = false := bkcf (v := .bool false) hb1
    have d1 : w1.cell? ⟨w.heap.size + 1 + 1, 1, none⟩ = some (.slice none 0 0) := bkc hb1
    have d1f : w1.frozen? ⟨w.heap.size + 1 + 1, 1, none⟩ = false := bkcf (v := .slice none 0 0) hb1
    have hB : Below w.heap.size w w1 := bthen (by repeat (first|exact bzR _ _|exact hB|refine bzD ?_|refine bzN ?_|refine bzS ?_|refine bzA ?_)) hb1
    have hz : w.heap.size ≤ w1.heap.size := hB.size
    clear RC
    go_wp2
    refine bodyPost_ret (v := .tuple #[.agg #[.slice none 0 0], .agg #[.bool false, .slice none 0 0], .int .i64 80]) (by simp [results, Tryz.results23, go_sem, *]) rfl (MatPost.no HR.out ?_)
    repeat (first|exact bzR _ _|exact hB|refine bzD ?_|refine bzN ?_|refine bzS ?_|refine bzA ?_)
end Go.Proofs.YtbmaffijncapiaaGreatDoor

/- denote: Apply: what a program makes of numbers. -/
namespace Go.Proofs.YtbmaffijncapiaaGreatDoor
open Num
open Go.ChangeShapes Go.WideShapes Go.ChangeAt Go.RowKit
set_option linter.unusedVariables false
set_option linter.unusedSimpArgs false
attribute [local go_sem ↓] Go.wp_at_zero Go.wp_at_succ
theorem mkRegsF (n : Nat) (hn : n ≤ 1099511627776) (w : World) : (Instr.makeSlice 29 (.int .i64 (n : Int)) (.int .i64 (n : Int))).run Tryz.prog w = .ok (.slice (some ⟨w.heap.size, 0, none⟩) n n) (w.alloc (.cells (Array.replicate n (.slice none 0 0)) 38)) := by
  obtain ⟨i0, hi, hz0, hz1, hz2⟩ := info_parts infoRats
  have e : madeCells (Value.slice none 0 0).cells ((n : Int).toNat * 1) = Array.replicate n (.slice none 0 0) := by
    apply Array.ext
    · simp [size_madeCells]
    · intro i h1 h2
      simp [madeCells, Value.cells, Nat.mod_one]
  rw [run_make w _ _ i0 _ Tryz.underlying29 hi hz0 .i64 .i64 n n (by omega) (by omega) (by rw [hz2]; omega) (by omega), hz1, e]
  rfl
end Go.Proofs.YtbmaffijncapiaaGreatDoor

