/- Texts of this seat, laid together: DnQ, DnU, RxC, RpA, DnS, DwC, DwE. What each theorem proves, and under which conditions, its statement says. -/
import Derived.Test.YtbmaffijncapiaaGreatDoorB22
set_option maxRecDepth 100000
set_option maxHeartbeats 32000000
set_option linter.unusedVariables false
set_option linter.unusedSimpArgs false
namespace Go.Proofs.YtbmaffijncapiaaGreatDoor
open Go.ChangeShapes Go.WideShapes Go.ChangeAt Go.RowKit
section
open Num
attribute [local go_sem ↓] Go.wp_at_zero Go.wp_at_succ
theorem flatF_len {m : Nat} : ∀ {F : GridF}, RectF m F → F.flatten.length = F.length * m
 | [], _ => by simp
 | r :: F, h => by
  have h0 : r.length = m := h 0 (by simp)
  have h1 : RectF m F := fun i hi => h (i + 1) (by simpa using hi)
  rw [List.flatten_cons, List.length_append, flatF_len h1, h0, List.length_cons, Nat.add_mul, Nat.one_mul, Nat.add_comm]
theorem flatF_get {m : Nat} : ∀ {F : GridF}, RectF m F → ∀ {i j : Nat}, i < F.length → j < m → F.flatten.getD (i * m + j) 0 = (F.getD i []).getD j 0
 | [], _, i, j, hi, _ => absurd hi (by simp)
 | r :: F, h, i, j, hi, hj => by
  have h0 : r.length = m := h 0 (by simp)
  have h1 : RectF m F := fun i hi => h (i + 1) (by simpa using hi)
  rw [List.flatten_cons]
  cases i with
  | zero => rw [Nat.zero_mul, Nat.zero_add, appq_lt (by omega)]; simp
  | succ i =>
   have e : (i + 1) * m + j = m + (i * m + j) := by rw [Nat.add_mul, Nat.one_mul]; omega
   rw [appq_ge (by omega), e, h0, Nat.add_sub_cancel_left, flatF_get h1 (by simpa using hi) hj]; simp
theorem flatF_bd {k m : Nat} {F : GridF} (hr : RectF m F) (hb : BdF k F) : ∀ t, t < F.flatten.length → BdQ k (F.flatten.getD t 0) := by
 intro t ht
 rw [flatF_len hr] at ht
 have hm : 0 < m := by rcases Nat.eq_zero_or_pos m with h | h; subst h; simp at ht; exact h
 have hi : t / m < F.length := (Nat.div_lt_iff_lt_mul hm).2 ht
 have hj := Nat.mod_lt t hm
 have e : t = t / m * m + t % m := by rw [Nat.mul_comm]; exact (Nat.div_add_mod t m).symm
 rw [e, flatF_get hr hi hj]
 exact hb _ hi _ (by rw [hr _ hi]; exact hj)
def matD (F : GridF) : Int := comD F.flatten
def matG (F : GridF) : Grid := F.map fun r => r.map fun q => q.num * (matD F / (q.den : Int))
theorem matG_len (F : GridF) : (matG F).length = F.length := by simp [matG]
theorem matG_row {F : GridF} {i : Nat} (h : i < F.length) : (matG F).getD i [] = (F.getD i []).map fun q => q.num * (matD F / (q.den : Int)) := by simp [matG, h]
theorem matG_rct {F : GridF} {m : Nat} (hr : RectF m F) : Rct (matG F) m := fun i hi => by
 rw [matG_len] at hi
 rw [matG_row hi, List.length_map]; exact hr i hi
theorem map_getDq {r : List Rat} {f : Rat → Int} {j : Nat} (h : j < r.length) : (r.map f).getD j 0 = f (r.getD j 0) := by simp [h]
theorem matG_at {F : GridF} {m i j : Nat} (hr : RectF m F) (hi : i < F.length) (hj : j < m) : gat (matG F) i j = ((F.getD i []).getD j 0).num * (matD F / (((F.getD i []).getD j 0).den : Int)) := by
 have hl := hr i hi
 unfold gat
 rw [matG_row hi, map_getDq (by omega)]
theorem gat_far {g : Grid} {i j : Nat} (h : g.length ≤ i ∨ (g.getD i []).length ≤ j) : gat g i j = 0 := by
 unfold gat
 rcases h with h | h
 · have : g.getD i [] = [] := by simp [List.getD_eq_getElem?_getD, List.getElem?_eq_none h]
   rw [this]; rfl
 · simp [List.getD_eq_getElem?_getD] at h ⊢
   rw [List.getElem?_eq_none h]; rfl
theorem matG_bd {F : GridF} {m k : Nat} (hr : RectF m F) (hb : BdF k F) : BdM (k + (k * (F.length * m) + 1)) (matG F) := fun i j => by
 by_cases hi : i < F.length
 · by_cases hj : j < m
   · rw [matG_at hr hi hj]
     have h1 := hb i hi j (by rw [hr i hi]; exact hj)
     have h2 := (comD_bd (flatF_bd hr hb) F.flatten.length (Nat.le_refl _)).2
     rw [List.take_length, flatF_len hr] at h2
     exact Bd.mul h1.1 (bd_ediv h2 _)
   · rw [gat_far (.inr (by rw [matG_rct hr i (by rw [matG_len]; exact hi)]; omega))]
     unfold Bd; exact Nat.two_pow_pos _
 · rw [gat_far (.inl (by rw [matG_len]; omega))]
   unfold Bd; exact Nat.two_pow_pos _
theorem chunk_rows {B m N base : Nat} {f : Nat → Int} {w : World} {v : Value} {g : Grid} (h : IsL 68 (PCh B m) base w v (List.range N)) (hi : IntsF IsInt w B 0 (N * m) f) (ht : typOf w B = some 50) (hg : g.length = N) (hr : Rct g m) (hm : m ≤ 65536) (he : ∀ i j, i < N → j < m → gat g i j = f (i * m + j)) :
 IsL 68 (PRow 0) 0 w v g := by
 obtain ⟨a, c, h1, h2, h3, h4⟩ := h
 rw [List.length_range] at h1 h2
 refine ⟨a, c, by rw [hg]; exact h1, by omega, h3, ?_⟩
 rcases h4 with h4 | ⟨b, off, e, hb, ht', hi'⟩
 · left
   have := congrArg List.length h4
   rw [List.length_range] at this
   exact List.length_eq_zero_iff.1 (by rw [hg]; simpa using this)
 · refine .inr ⟨b, off, e, Nat.zero_le _, ht', fun k hk => ?_⟩
   have hkN : k < N := by omega
   obtain ⟨u, hu, hp⟩ := hi' k (by rw [List.length_range]; exact hkN)
   have hp2 : u = .slice (some ⟨B, k * m * 2, none⟩) m m := by rw [List.getElem_range] at hp; exact hp
   have hgk : g[k] = g.getD k [] := by simp [hk]
   have hlen := hr k hk
   refine ⟨u, hu, _, m, by rw [hp2, hgk, hlen], by rw [hgk, hlen]; exact Nat.le_refl _, by unfold maxLen; omega, .inr ⟨B, k * m * 2, rfl, Nat.zero_le _, ht, fun j hj => ?_⟩⟩
   rw [hgk, hlen] at hj
   obtain ⟨nb, ad, ln, cp, k1, k2, k3⟩ := hi (k * m + j) (by have := mul_step (m := m) hkN; omega)
   refine ⟨nb, ad, ln, cp, ?_, ?_, ?_⟩
   · rw [← k1]; congr 2; rw [Nat.add_mul]; omega
   · rw [← k2]; congr 2; rw [Nat.add_mul]; omega
   · have := he k j hkN hj
     unfold gat at this
     show IsInt w _ ((g[k]).getD j 0)
     rw [hgk, this]; exact k3
theorem FRow.psq {base : Nat} {w : World} {u : Value} {l : List Rat} (h : FRow base w u l) (hl : 0 < l.length) : PSq w u l := by
 obtain ⟨a, c, e, hc, h4⟩ := h
 rcases h4 with h4 | ⟨b, off, e2, hb, ht, hi⟩
 · rw [h4] at hl; simp at hl
 · exact ⟨b, off, c, by rw [e, e2], ht, hi⟩
theorem IsL.psqs {base : Nat} {w : World} {v : Value} {g : GridF} {m : Nat} (h : IsL 38 (FRow base) 0 w v g) (hr : RectF m g) (hm : 0 < m) : IsL 38 PSq 0 w v g := by
 obtain ⟨a, c, h1, h2, h3, h4⟩ := h
 refine ⟨a, c, h1, h2, h3, h4.imp id ?_⟩
 rintro ⟨b, off, e, hb, ht, hi⟩
 refine ⟨b, off, e, hb, ht, fun k hk => ?_⟩
 obtain ⟨u, hu, hp⟩ := hi k hk
 have : (g[k]'hk).length = m := by have := hr k hk; simpa [hk] using this
 exact ⟨u, hu, hp.psq (by rw [this]; exact hm)⟩
def MatNo (ins regs : Int) (code : List Ins) (outs : List Int) (q : Int) : Prop := (¬ ProgOk ins regs code outs ∧ q = 80) ∨ (ProgOk ins regs code outs ∧ endF ins regs code = none ∧ q = 3) ∨ (ProgOk ins regs code outs ∧ (∃ h, endF ins regs code = some h) ∧ (16 < ins ∨ 16 < outs.length) ∧ q = 5)
def MatRes (ins regs : Int) (code : List Ins) (outs : List Int) (w' : World) (v u : Value) (q : Int) : Prop :=
 (MatNo ins regs code outs q ∧ v = .agg #[.slice none 0 0] ∧ u = .agg #[.bool false, .slice none 0 0]) ∨
 (ProgOk ins regs code outs ∧ ins ≤ 16 ∧ outs.length ≤ 16 ∧ q = 0 ∧ ∃ h, endF ins regs code = some h ∧ Mt 17000000 (matG (outsF outs h)) v w' ∧ IsInt w' u (matD (outsF outs h)))
def MatPost (ins regs : Int) (code : List Ins) (outs : List Int) (w : World) (e : Ending) (w' : World) : Prop := (∃ v u q, e = .returned (.tuple #[v, u, .int .i64 q]) ∧ MatRes ins regs code outs w' v u q) ∧ Below w.heap.size w w'
theorem MatPost.no {ins regs : Int} {code : List Ins} {outs : List Int} {w w' : World} {q : Int} (h : MatNo ins regs code outs q) (hb : Below w.heap.size w w') :
 MatPost ins regs code outs w (.returned (.tuple #[.agg #[.slice none 0 0], .agg #[.bool false, .slice none 0 0], .int .i64 q])) w' := ⟨⟨_, _, _, rfl, .inl ⟨h, rfl, rfl⟩⟩, hb⟩
theorem MatPost.yes {ins regs : Int} {code : List Ins} {outs : List Int} {w w' : World} {v u : Value} {h : GridF} (h1 : ProgOk ins regs code outs) (h2 : ins ≤ 16) (h3 : outs.length ≤ 16) (h4 : endF ins regs code = some h) (h5 : Mt 17000000 (matG (outsF outs h)) v w') (h6 : IsInt w' u (matD (outsF outs h))) (hb : Below w.heap.size w w') :
 MatPost ins regs code outs w (.returned (.tuple #[v, u, .int .i64 0])) w' := ⟨⟨_, _, _, rfl, .inr ⟨h1, h2, h3, rfl, h, h4, h5, h6⟩⟩, hb⟩
theorem mat_facts {ins regs : Int} {code : List Ins} {outs : List Int} {h : GridF} (hok : ProgOk ins regs code outs) (e : endF ins regs code = some h) (h16 : ins ≤ 16) (o16 : outs.length ≤ 16) :
 RectF ins.toNat (outsF outs h) ∧ BdF 65536 (outsF outs h) ∧ (outsF outs h).length = outs.length ∧ (outsF outs h).flatten.length = outs.length * ins.toNat ∧ outs.length * ins.toNat ≤ 256 ∧ 0 < outs.length * ins.toNat := by
 obtain ⟨h1, h2⟩ := endF_ok hok e
 refine ⟨h1, slimG_bd h2, outsF_len _ _, by rw [flatF_len h1, outsF_len], ?_, ?_⟩
 · have := Nat.mul_le_mul o16 (show ins.toNat ≤ 16 by omega); omega
 · exact Nat.mul_pos hok.o1 (by have := hok.i1; omega)
theorem matG_mt {F : GridF} {m : Nat} {v : Value} {w : World} (hr : RectF m F) (hb : BdF 65536 F) (h1 : 0 < m) (h2 : m ≤ 16) (h3 : 0 < F.length) (h4 : F.length ≤ 16) (hv : IsM 0 w v (matG F)) : Mt 17000000 (matG F) v w := by
 have hc : cols (matG F) = m := (matG_rct hr).cols (by rw [matG_len]; exact h3)
 refine ⟨hv, by rw [hc]; exact matG_rct hr, by rw [hc, matG_len]; omega, (matG_bd hr hb).mono ?_⟩
 have := Nat.mul_le_mul h4 h2
 have := Nat.mul_le_mul_left 65536 this
 omega
theorem matG_fits {F : GridF} {m : Nat} (hr : RectF m F) (h1 : 0 < m) (h2 : m ≤ 16) (h3 : 0 < F.length) (h4 : F.length ≤ 16) : fitsE (matG F) = 0 := by
 have hc : cols (matG F) = m := (matG_rct hr).cols (by rw [matG_len]; exact h3)
 unfold fitsE
 rw [hc, if_neg (by rw [matG_len]; omega), if_neg (by rw [matG_len]; omega), if_pos (show ∀ i, i < (matG F).length → ((matG F).getD i []).length = m from matG_rct hr)]
end
section
open Num
attribute [local go_sem ↓] Go.wp_at_zero Go.wp_at_succ
def extF (gin : GridF) (R m : Nat) : GridF := (List.range R).map fun k => (List.range m).map fun j => if k < gin.length then (gin.getD k []).getD j 0 else 0
theorem extF_len (gin : GridF) (R m : Nat) : (extF gin R m).length = R := by simp [extF]
theorem extF_get {gin : GridF} {R m k : Nat} (h : k < R) : (extF gin R m).getD k [] = (List.range m).map fun j => if k < gin.length then (gin.getD k []).getD j 0 else 0 := by simp [extF, h]
theorem ext_take {gin : GridF} {R m k : Nat} (h : k < R) : (extF gin R m).take k ++ [(extF gin R m).getD k []] = (extF gin R m).take (k + 1) := by
 have hl : k < (extF gin R m).length := by rw [extF_len]; exact h
 rw [List.take_succ_eq_append_getElem hl, List.getD_eq_getElem?_getD, List.getElem?_eq_getElem hl]; rfl
theorem extF_rect (gin : GridF) (R m : Nat) : RectF m (extF gin R m) := fun i hi => by rw [extF_len] at hi; rw [extF_get hi]; simp
theorem list_take {α : Type} {L : List α} {k : Nat} {d : α} (h : k < L.length) : L.take k ++ [L.getD k d] = L.take (k + 1) := by
 rw [List.take_succ_eq_append_getElem h, List.getD_eq_getElem?_getD, List.getElem?_eq_getElem h]; rfl
structure VarQR (b : Nat) (q : Rat) (w : World) : Prop where
 fr : Free w b
 at_ : ∃ n1 a1 l1 c1 n2 a2 l2 c2, w.cell? ⟨b, 0, none⟩ = some (.bool n1) ∧ w.cell? ⟨b, 1, none⟩ = some (.slice a1 l1 c1) ∧ w.cell? ⟨b, 2, none⟩ = some (.bool n2) ∧ w.cell? ⟨b, 3, none⟩ = some (.slice a2 l2 c2) ∧ IsQR w (.agg #[.bool n1, .slice a1 l1 c1, .bool n2, .slice a2 l2 c2]) q
section
variable {b : Nat} {q : Rat} {w w' : World} {n1 n2 : Bool} {a1 a2 : Option Addr} {l1 c1 l2 c2 : Nat}
theorem VarQR.mk1 (h : IsQR w (.agg #[.bool n1, .slice a1 l1 c1, .bool n2, .slice a2 l2 c2]) q) : VarQR w.heap.size q (w.alloc (.cells #[.bool n1, .slice a1 l1 c1, .bool n2, .slice a2 l2 c2] 91)) :=
 ⟨Free.new rfl, _, _, _, _, _, _, _, _, cell_new rfl rfl, cell_new rfl rfl, cell_new rfl rfl, cell_new rfl rfl, h.keep (bal (Below.refl _ _) _)⟩
theorem VarQR.mk2 (hp : b = w.heap.size) (hb : Below (w.alloc (.cells #[.bool false, .slice none 0 0, .bool false, .slice none 0 0] 91)).heap.size (w.alloc (.cells #[.bool false, .slice none 0 0, .bool false, .slice none 0 0] 91)) w')
 (h : IsQR w' (.agg #[.bool n1, .slice a1 l1 c1, .bool n2, .slice a2 l2 c2]) q) : VarQR b q ((((w'.setCell ⟨b, 0, none⟩ (.bool n1)).setCell ⟨b, 1, none⟩ (.slice a1 l1 c1)).setCell ⟨b, 2, none⟩ (.bool n2)).setCell ⟨b, 3, none⟩ (.slice a2 l2 c2)) := by
 subst hp
 have hf : Free w' w.heap.size := (Free.new rfl).keep hb
 have y0 : w'.cell? ⟨w.heap.size, 0, none⟩ = some (.bool false) := bkeep hb (cell_new rfl rfl)
 have y1 : w'.cell? ⟨w.heap.size, 1, none⟩ = some (.slice none 0 0) := bkeep hb (cell_new rfl rfl)
 have y2 : w'.cell? ⟨w.heap.size, 2, none⟩ = some (.bool false) := bkeep hb (cell_new rfl rfl)
 have y3 : w'.cell? ⟨w.heap.size, 3, none⟩ = some (.slice none 0 0) := bkeep hb (cell_new rfl rfl)
 refine ⟨(((hf.set _ _).set _ _).set _ _).set _ _, _, _, _, _, _, _, _, _, ?_, ?_, ?_, ?_, h.put4 y0 y1 y2 y3 _ _ _ _⟩
 · exact cell_far (cell_far (cell_far (cell_here y0 _) (by simp) _) (by simp) _) (by simp) _
 · exact cell_far (cell_far (cell_here (cell_far y1 (by simp) _) _) (by simp) _) (by simp) _
 · exact cell_far (cell_here (cell_far (cell_far y2 (by simp) _) (by simp) _) _) (by simp) _
 · exact cell_here (cell_far (cell_far (cell_far y3 (by simp) _) (by simp) _) (by simp) _) _
end
def RunRP (code : List Ins) (outs : List Int) (g : GridF) (w : World) (e : Ending) (w' : World) : Prop :=
 (∃ vs m, ToldF code g m ∧ SetR w.heap.size w' vs ((List.range m).map (toldQ code g)) ∧
  ((∃ h vo, afterF code g code.length = some h ∧ e = .returned (.tuple #[vs, vo, .bool true]) ∧ SetR w.heap.size w' vo (outsF outs h)) ∨ (afterF code g code.length = none ∧ e = .returned (.tuple #[vs, .slice none 0 0, .bool false])))) ∧ Below w.heap.size w w'
theorem RunRP.no {code : List Ins} {outs : List Int} {g u : GridF} {w w' : World} {vs : Value} {k : Nat} (hk : k < code.length) (hu : afterF code g k = some u) (hn : afterF code g (k + 1) = none) (hs : SetR w.heap.size w' vs ((List.range k).map (toldQ code g))) (hb : Below w.heap.size w w') :
 RunRP code outs g w (.returned (.tuple #[vs, .slice none 0 0, .bool false])) w' := ⟨⟨vs, k, ⟨by omega, ⟨u, hu⟩, fun _ => hn⟩, hs, .inr ⟨afterF_mono hn (by omega), rfl⟩⟩, hb⟩
theorem RunRP.yes {code : List Ins} {outs : List Int} {g h : GridF} {w w' : World} {vs vo : Value} (hu : afterF code g code.length = some h) (hs : SetR w.heap.size w' vs ((List.range code.length).map (toldQ code g))) (ho : SetR w.heap.size w' vo (outsF outs h)) (hb : Below w.heap.size w w') :
 RunRP code outs g w (.returned (.tuple #[vs, vo, .bool true])) w' := ⟨⟨vs, code.length, ⟨Nat.le_refl _, ⟨h, hu⟩, fun h => absurd h (by omega)⟩, hs, .inl ⟨h, vo, hu, rfl, ho⟩⟩, hb⟩
theorem rRun_c (ins : Int) (R m : Nat) (ca oa : Option Addr) (cc oc : Nat) (code : List Ins) (outs : List Int) (vin : Value) (gin : GridF) (b0 : Nat) (w : World) (hc : InsV w ca cc code) (ho : IntsV w oa oc outs) (hin : SetR b0 w vin gin)
 (hcs : ∀ n, n < code.length → InsOk (code.getD n default) R) (hos : ∀ k, k < outs.length → 0 ≤ outs.getD k 0 ∧ outs.getD k 0 < (R : Int)) (hR : R ≤ 128) (hm : m ≤ 128) (hgl : gin.length ≤ R) (hgr : RectF m gin) (hsl : SlimG (extF gin R m)) (h1R : 1 ≤ R) (hcl : code.length ≤ 16384) (hol : outs.length ≤ 128) :
 Calls Tryz.prog 100 #[.agg #[.int .i64 ins, .int .i64 (R : Int), .slice ca code.length cc, .slice oa outs.length oc], vin, .int .i64 (m : Int)] w (RunRP code outs (extF gin R m) w) := by
 have HC := hZ (And.intro hc ho)
 have HIN := hZ hin
 have HCS := hZ hcs
 have HOS := hZ hos
 have HGR := hZ hgr
 have HSL := hZ hsl
 obtain ⟨ia, ic, rfl⟩ := hin.ex
 obtain ⟨g, hg⟩ : ∃ g, extF gin R m = g := ⟨_, rfl⟩
 have HG := hZ hg
 have HGL := hZ (show g.length = R from by rw [← hg, extF_len])
 have HGT := hZ (show ∀ k, k < R → g.take k ++ [(List.range m).map fun j => if k < gin.length then (gin.getD k []).getD j 0 else 0] = g.take (k + 1) from fun k hk => by rw [← hg, ← extF_get hk]; exact ext_take hk)
 have HGM := hZ (show RectF m g from by rw [← hg]; exact extF_rect gin R m)
 rw [hg] at HSL ⊢
 obtain ⟨N, hN⟩ : ∃ N, gin.length = N := ⟨_, rfl⟩
 have HN := hZ hN
 rw [hN] at HGT hgl ⊢
 clear hc ho hin hcs hos hgr hsl hg hN
 have hB := Below.refl w.heap.size w
 go_enter Tryz.func100, Tryz.ntmps100
 go_upto_region 3 with (fail)
 refine wp_name fun w0 hW0 => ?_
 have hB0 : Below w.heap.size w w0 := by rw [hW0]; repeat (first|exact bzR _ _|exact hB|refine bzD ?_|refine bzN ?_|refine bzS ?_|refine bzA ?_)
 have HB0 := hZ hB0
 have p1 : w0.cell? ⟨w.heap.size, 1, none⟩ = some (.int .i64 (R : Int)) := by rw [hW0]; exact cell_new rfl rfl
 have p2 : w0.cell? ⟨w.heap.size, 2, none⟩ = some (.slice ca code.length cc) := by rw [hW0]; exact cell_new rfl rfl
 have p3 : w0.cell? ⟨w.heap.size, 3, none⟩ = some (.slice oa outs.length oc) := by rw [hW0]; exact cell_new rfl rfl
 have hw0 : w.heap.size ≤ w0.heap.size := hB0.size
 have HP := hZ (show ∀ W, Below w0.heap.size w0 W → W.cell? ⟨w.heap.size, 1, none⟩ = some (.int .i64 (R : Int)) ∧ W.cell? ⟨w.heap.size, 2, none⟩ = some (.slice ca code.length cc) ∧ W.cell? ⟨w.heap.size, 3, none⟩ = some (.slice oa outs.length oc) from fun W q => ⟨bkeep q p1, bkeep q p2, bkeep q p3⟩)
 have h00 := Below.refl w0.heap.size w0
 have zp := cell_lt p1
 clear hW0 hB hB0
 go_loopw [9, 10] (fun vo x wr => ∃ k : Nat, k ≤ R ∧ x = .int .i64 k ∧ Below w0.heap.size w0 wr ∧ Hid (SetR w0.heap.size wr vo (g.take k))) (fun _ x _ => R - (intOf x).toNat)
 case atStart => exact ⟨0, Nat.zero_le _, rfl, h00, hZ (SetR.nil _ _)⟩
 case round =>
  obtain ⟨k, hk, rfl, hBr, hS⟩ := hrel
  obtain ⟨p1, p2, p3⟩ := HP.out wr hBr
  have zp := cell_lt p1
  by_cases hlt : k < R
  · have hltI : (k : Int) < (R : Int) := by omega
    obtain ⟨va, vc, hv⟩ := hS.out.ex
    subst hv
    have hll : (g.take k).length = k := by rw [List.length_take, HGL.out]; omega
    have HLN := hZ (HGT.out k hlt)
    obtain ⟨S, hS'⟩ : ∃ S, g.take k = S := ⟨_, rfl⟩
    rw [hS'] at hS HLN hll
    rw [hS']
    have HSLN := hZ hll
    rw [hll]
    have hSk : Hid (SetR w0.heap.size wr (.slice va k vc) S) := by rw [hll] at hS; exact hS
    have hrr := Below.refl wr.heap.size wr
    obtain ⟨f, hf⟩ : ∃ f : Nat → Rat, (fun j => if k < N then (gin.getD k []).getD j 0 else 0) = f := ⟨_, rfl⟩
    have HF := hZ (show ∀ j, f j = if k < N then (gin.getD k []).getD j 0 else 0 from fun j => by rw [← hf])
    rw [hf] at HLN
    clear hS hS' hll hf
    go_wp2
    go_loopw [11, 12] (fun vr x wq => ∃ j : Nat, j ≤ m ∧ x = .int .i64 j ∧ Hid (FrOwn IsQR 91 wr wq vr ((List.range j).map f))) (fun _ x _ => m - (intOf x).toNat)
    case atStart => exact ⟨0, Nat.zero_le _, rfl, hZ (FrOwn.nil _ _ hrr)⟩
    case round =>
     rename World => wq
     obtain ⟨j, hj, rfl, hO⟩ := hrel
     by_cases hlt2 : j < m
     · have hltJ : (j : Int) < (m : Int) := by omega
       have HLN2 := hZ (range_snocQ f j)
       have HLL := hZ (show ((List.range j).map f).length + 1 ≤ 1099511627776 from by rw [List.length_map, List.length_range]; omega)
       obtain ⟨L, hL⟩ : ∃ L, (List.range j).map f = L := ⟨_, rfl⟩
       rw [hL] at hO HLN2 HLL
       obtain ⟨fa, fc, hfv⟩ := hO.out.ex
       subst hfv
       have hqq := Below.refl wq.heap.size wq
       have hbq := hO.out.bel
       clear hL
       go_wp2_with fail
       (with_reducible refine (rqZero_c _).mono ?_)
       rintro e w5 ⟨⟨u5, rfl, hu5⟩, hb5⟩
       have hq5 : Below wq.heap.size wq w5 := bthen bZ hb5
       have HU5 := hZ hu5
       obtain ⟨m1, b1, k1, d1, m2, b2, k2, d2, rfl, -, -⟩ := hu5
       have h55 := Below.refl w5.heap.size w5
       clear hb5
       go_upto_region 10 with (fail)
       refine wp_name fun w6 hW6 => ?_
       have h56 : Below w5.heap.size w5 w6 := by rw [hW6]; repeat (first|exact bzR _ _|exact h55|refine bzD ?_|refine bzN ?_|refine bzS ?_|refine bzA ?_)
       have hcells : (w6.cell? ⟨w5.heap.size, 0, none⟩ = some (.bool m1) ∧ w6.cell? ⟨w5.heap.size, 1, none⟩ = some (.slice b1 k1 d1) ∧ w6.cell? ⟨w5.heap.size, 2, none⟩ = some (.bool m2) ∧ w6.cell? ⟨w5.heap.size, 3, none⟩ = some (.slice b2 k2 d2)) ∧ Free w6 w5.heap.size := by rw [hW6]; exact ⟨⟨cell_new rfl rfl, cell_new rfl rfl, cell_new rfl rfl, cell_new rfl rfl⟩, Free.new rfl⟩
       obtain ⟨⟨z0, z1, z2, z3⟩, hfr⟩ := hcells
       have HU6 := hZ (HU5.out.keep h56)
       have hq6 : Below wq.heap.size wq w6 := bthen hq5 h56
       have hI6 : Below w.heap.size w w6 := bthen HB0.out (bthen hBr (bthen hbq hq6))
       obtain ⟨XB, hXB⟩ : ∃ XB, w5.heap.size = XB := ⟨_, rfl⟩
       have hXq : wq.heap.size ≤ XB := by rw [← hXB]; exact hq5.size
       rw [hXB] at z0 z1 z2 z3 hfr ⊢
       have zz := cell_lt z0
       clear hW6 hXB HU5 hq5 h56 h55
       by_cases hkj : k < N
       · have hdk : (k : Int) < (N : Int) := by omega
         have HFJ := hZ (show f j = (gin.getD k []).getD j 0 from by rw [HF.out, if_pos hkj])
         obtain ⟨ib, ic', e1, -, -, -, -, hcell⟩ := (HIN.out.keep hI6).view (by rw [HN.out]; omega)
         obtain ⟨rfl, -, rfl⟩ := Value.slice.inj e1
         obtain ⟨u, hu, hrow⟩ := hcell k (by rw [HN.out]; exact hkj)
         have hrl : (gin.getD k []).length = m := HGR.out k (by rw [HN.out]; exact hkj)
         obtain ⟨ra, rc, rfl⟩ := FrRow.ex hrow
         rw [hrl] at hu hrow
         obtain ⟨rb, ro, rfl, -, g1, gy1, s1, t1, g2, gy2, s2, t2, x0, x1, x2, x3, xI⟩ := FrRow.at hrow hlt2
         rw [← HFJ.out] at xI
         have HXI := hZ xI
         have zu := cell_lt hu
         have zx := cell_lt x0
         have f0 := hfr.2 0
         have f1 := hfr.2 1
         have f2 := hfr.2 2
         have f3 := hfr.2 3
         clear hcell hrow hrl e1 xI hkj
         go_upto_region 12 with (fail)
         refine wp_name fun w9 hW9 => ?_
         have hq9 : Below wq.heap.size wq w9 := by rw [hW9]; exact bset (bset (bset (bset hq6 (p := ⟨XB, 0, none⟩) hXq _) (p := ⟨XB, 1, none⟩) hXq _) (p := ⟨XB, 2, none⟩) hXq _) (p := ⟨XB, 3, none⟩) hXq _
         have HU9 := hZ (show IsQR w9 _ (f j) from by rw [hW9]; exact HXI.out.put4 z0 z1 z2 z3 (.bool g1) (.slice gy1 s1 t1) (.bool g2) (.slice gy2 s2 t2))
         have y0 : w9.cell? ⟨XB, 0, none⟩ = some (.bool g1) := by rw [hW9]; exact cell_far (cell_far (cell_far (cell_here z0 _) (by simp) _) (by simp) _) (by simp) _
         have y1 : w9.cell? ⟨XB, 1, none⟩ = some (.slice gy1 s1 t1) := by rw [hW9]; exact cell_far (cell_far (cell_here (cell_far z1 (by simp) _) _) (by simp) _) (by simp) _
         have y2 : w9.cell? ⟨XB, 2, none⟩ = some (.bool g2) := by rw [hW9]; exact cell_far (cell_here (cell_far (cell_far z2 (by simp) _) (by simp) _) _) (by simp) _
         have y3 : w9.cell? ⟨XB, 3, none⟩ = some (.slice gy2 s2 t2) := by rw [hW9]; exact cell_here (cell_far (cell_far (cell_far z3 (by simp) _) (by simp) _) (by simp) _) _
         have zy := cell_lt y0
         have HO9 := hZ (hO.out.below frk_ref hq9)
         clear hW9 z0 z1 z2 z3 HXI x0 x1 x2 x3 hu
         go_wp2_with (at_builtin; refine app_q elRW (by decide) frk_ref (by rfl) (by rfl) HO9.out HU9.out (by rfl) (by rfl) HLL.out ?_)
         intro v' w10 hO10 _ _
         have HO10 := hZ hO10
         rw [HLN2.out] at HO10
         clear hO10
         go_wp2
         exact ⟨⟨j + 1, hlt2, by go_num, HO10⟩, meas hlt2 (by go_num) rfl⟩
       · have hdk : ¬ (k : Int) < (N : Int) := by omega
         have HFJ := hZ (show f j = 0 from by rw [HF.out, if_neg hkj])
         have HO9 := hZ (hO.out.below frk_ref hq6)
         clear hkj
         go_wp2_with (at_builtin; refine app_q elRW (by decide) frk_ref (by rfl) (by rfl) HO9.out HU6.out (by rfl) (by rfl) HLL.out ?_)
         intro v' w10 hO10 _ _
         have HO10 := hZ hO10
         rw [show (0 : Rat) = f j from HFJ.out.symm, HLN2.out] at HO10
         clear hO10
         go_wp2
         exact ⟨⟨j + 1, hlt2, by go_num, HO10⟩, meas hlt2 (by go_num) rfl⟩
     · obtain rfl : j = m := by omega
       have hltJ : ¬ (j : Int) < (j : Int) := by omega
       have hbq := hO.out.bel
       have HRW := hZ (show FR wq _ ((List.range j).map f) from FrRow.rebase hO.out.row (Nat.zero_le _))
       have HSQ := hZ (hSk.out.keep hbq)
       have HLL := hZ (show S.length + 1 ≤ 1099511627776 from by rw [HSLN.out]; omega)
       obtain ⟨L, hL⟩ : ∃ L, (List.range j).map f = L := ⟨_, rfl⟩
       rw [hL] at hO HRW HLN
       obtain ⟨fa, fc, hfv⟩ := hO.out.ex
       subst hfv
       have hBq := bthen hBr hbq
       have HBZ := hZ hBq.size
       obtain ⟨NN, hNN⟩ : ∃ N, L.length = N := ⟨_, rfl⟩
       rw [hNN] at HRW ⊢
       clear hL hO hbq hNN hSk
       go_wp2_with (at_builtin; refine app_R (by rfl) (by rfl) HSQ.out HRW.out HBZ.out (by rfl) (by rfl) HLL.out ?_)
       intro v' w11 hS11 ho11 hk11
       have HS11 := hZ hS11
       rw [HLN.out] at HS11
       have hB11 : Below w0.heap.size w0 w11 := hBq.trans (ho11.to_below (fun q hq hx e => by have := HSQ.out.lt q e; omega) hBq.size)
       clear hS11 ho11 hk11
       go_wp2
       exact ⟨⟨k + 1, hlt, by go_num, hB11, HS11⟩, meas hlt (by go_num) rfl⟩
  · obtain rfl : k = R := by omega
    have hltI : ¬ (k : Int) < (k : Int) := by omega
    rw [List.take_of_length_le (by rw [HGL.out]; exact Nat.le_refl _)] at hS
    obtain ⟨rb, rc, hv, hrb, hrc, hrfr, -, -⟩ := hS.out.view (by rw [HGL.out]; omega)
    subst hv
    rw [HGL.out] at hS ⊢
    have hrbs : rb < wr.heap.size := hrfr.1
    have hww : w0.heap.size ≤ wr.heap.size := hBr.size
    have hkk := Below.refl wr.heap.size wr
    have HBR := hZ hBr
    have HS0 := hZ (show ∃ u, afterF code g 0 = some u ∧ SetR w0.heap.size wr (.slice (some ⟨rb, 0, none⟩) k rc) u from ⟨g, rfl, hS.out⟩)
    clear hS hrfr hrc
    go_wp2
    go_loopw [14, 15] (fun vs x wq => ∃ n : Nat, n ≤ code.length ∧ x = .int .i64 n ∧ Below w0.heap.size w0 wq ∧ wr.heap.size ≤ wq.heap.size ∧ Hid (∃ u, afterF code g n = some u ∧ SetR w0.heap.size wq (.slice (some ⟨rb, 0, none⟩) k rc) u) ∧ Hid (SetR wr.heap.size wq vs ((List.range n).map (toldQ code g)))) (fun _ x _ => code.length - (intOf x).toNat)
    case atStart => exact ⟨0, Nat.zero_le _, rfl, hBr, Nat.le_refl _, HS0, hZ (SetR.nil _ _)⟩
    case round =>
     rename World => wq
     obtain ⟨n, hn, rfl, hBq, hzq, hU, hT⟩ := hrel
     obtain ⟨p1, p2, p3⟩ := HP.out wq hBq
     have zp := cell_lt p2
     obtain ⟨ta, tc, hv⟩ := hT.out.ex
     subst hv
     have HTL := hZ (show ((List.range n).map (toldQ code g)).length = n from by rw [List.length_map, List.length_range])
     have HTN := hZ (show (List.range n).map (toldQ code g) ++ [toldQ code g n] = (List.range (n + 1)).map (toldQ code g) from by rw [List.range_succ, List.map_append]; rfl)
     obtain ⟨TS, hTS⟩ : ∃ T, (List.range n).map (toldQ code g) = T := ⟨_, rfl⟩
     rw [hTS] at hT HTL HTN
     have HTE := hZ hTS
     rw [hTS]
     rw [HTL.out] at hT ⊢
     obtain ⟨u, hu, hUS⟩ := hU.out
     have HU := hZ hu
     have HUS := hZ hUS
     have hul : u.length = k := (afterF_len hu).trans HGL.out
     have HUL := hZ hul
     by_cases hlt : n < code.length
     · have hltI : (n : Int) < (code.length : Int) := by omega
       rcases HC.out.1 with h00 | ⟨cb, co, rfl, hcap, hcell⟩
       · rw [h00] at hlt; simp at hlt
       have hI := (hcell n hlt).keep (bthen HB0.out hBq)
       have hio := HCS.out n hlt
       have hai := (afterF_ok HGM.out HSL.out (fun j hj => by rw [HGL.out]; exact ⟨(HCS.out j hj).a0, (HCS.out j hj).a1⟩) (show n ≤ code.length by omega) hu)
       have HUR := hZ hai
       have htq := toldQ_eq hu
       obtain ⟨i, hi⟩ : ∃ i, code.getD n default = i := ⟨_, rfl⟩
       have HIE := hZ hi
       rw [hi] at hI hio htq
       obtain ⟨op, it, ia', ib', c⟩ := i
       have i0 := hI.c0
       have i1 := hI.c1
       have i2 := hI.c2
       have i3 := hI.c3
       have i4 := hI.c4
       have o1 := hio.o1
       have o2 := hio.o2
       have hcc := hio.c
       obtain ⟨nt, hnt⟩ : ∃ x : Nat, it = x := ⟨it.toNat, by have := hio.t0; dsimp only at this; omega⟩
       obtain ⟨na, hna⟩ : ∃ x : Nat, ia' = x := ⟨ia'.toNat, by have := hio.a0; dsimp only at this; omega⟩
       obtain ⟨nb, hnb⟩ : ∃ x : Nat, ib' = x := ⟨ib'.toNat, by have := hio.b0; dsimp only at this; omega⟩
       have hntk : nt < k := by have := hio.t1; dsimp only at this; omega
       have hnak : na < k := by have := hio.a1; dsimp only at this; omega
       have hnbk : nb < k := by have := hio.b1; dsimp only at this; omega
       subst hna hnb hnt
       dsimp only at i0 i1 i2 i3 i4 o1 o2 hcc htq
       rw [Int.toNat_natCast, Int.toNat_natCast] at htq
       have HOP := hZ (And.intro o1 (And.intro o2 hcc))
       obtain ⟨T, hTq⟩ : ∃ T, toldQ code g n = T := ⟨_, rfl⟩
       rw [hTq] at htq HTN
       have HTQ := hZ hTq
       have HTR := hZ htq
       have hrA : (u.getD na []).length = m := hai.1 na (by omega)
       have hrB : (u.getD nb []).length = m := hai.1 nb (by omega)
       have hTl : T.length = m := by rw [htq, rowF_len]; exact hrA
       have HTA := hZ (show ∀ j, j < m → T.getD j 0 = opQ ⟨op, nt, na, nb, c⟩ ((u.getD na []).getD j 0) ((u.getD nb []).getD j 0) ∧ BdQ 65536 ((u.getD na []).getD j 0) ∧ BdQ 65536 ((u.getD nb []).getD j 0) from fun j hj => ⟨by rw [htq]; exact rowF_get _ _ _ (by omega), hai.2 na (by omega) j (by omega), hai.2 nb (by omega) j (by omega)⟩)
       have HTL2 := hZ hTl
       have zi := cell_lt i0
       have hqq := Below.refl wq.heap.size wq
       have HZQ := hZ hzq
       clear hcell hcap hI hio hi hu hUS hai htq hTS hTq o1 o2 hcc hTl hU hul
       go_wp2
       refine wp_name fun w5 hW5 => ?_
       have h5 : Below wq.heap.size wq w5 := by rw [hW5]; repeat (first|exact bzR _ _|exact hqq|refine bzD ?_|refine bzN ?_|refine bzS ?_|refine bzA ?_)
       obtain ⟨y0, y1, y2, y3, y4⟩ := show w5.cell? ⟨wq.heap.size, 0, none⟩ = some (.int .i64 op) ∧ w5.cell? ⟨wq.heap.size, 1, none⟩ = some (.int .i64 (nt : Int)) ∧ w5.cell? ⟨wq.heap.size, 2, none⟩ = some (.int .i64 (na : Int)) ∧ w5.cell? ⟨wq.heap.size, 3, none⟩ = some (.int .i64 (nb : Int)) ∧ w5.cell? ⟨wq.heap.size, 4, none⟩ = some (.int .i64 c) from by rw [hW5]; exact ⟨cell_new rfl rfl, cell_new rfl rfl, cell_new rfl rfl, cell_new rfl rfl, cell_new rfl rfl⟩
       obtain ⟨IB, hIB⟩ : ∃ IB, wq.heap.size = IB := ⟨_, rfl⟩
       have hIBr : wr.heap.size ≤ IB := by rw [← hIB]; exact hzq
       rw [hIB] at y0 y1 y2 y3 y4 ⊢
       have HY := hZ (show ∀ W, Below w5.heap.size w5 W → W.cell? ⟨IB, 0, none⟩ = some (.int .i64 op) ∧ W.cell? ⟨IB, 1, none⟩ = some (.int .i64 (nt : Int)) ∧ W.cell? ⟨IB, 2, none⟩ = some (.int .i64 (na : Int)) ∧ W.cell? ⟨IB, 3, none⟩ = some (.int .i64 (nb : Int)) ∧ W.cell? ⟨IB, 4, none⟩ = some (.int .i64 c) from fun W q => ⟨bkeep q y0, bkeep q y1, bkeep q y2, bkeep q y3, bkeep q y4⟩)
       have HU5 := hZ (HUS.out.keep h5)
       have HT5 := hZ (hT.out.keep h5)
       have hB5 := bthen hBq h5
       have HB5 := hZ hB5
       have hz5 : wr.heap.size ≤ w5.heap.size := Nat.le_trans hzq h5.size
       have h55 := Below.refl w5.heap.size w5
       clear hW5 hIB hqq i0 i1 i2 i3 i4 y0 y1 y2 y3 y4 hT
       go_loopw [17, 18] (fun vr x wz => ∃ j : Nat, j ≤ m ∧ x = .int .i64 j ∧ Hid (FrOwn IsQR 91 w5 wz vr (T.take j)) ∧ Hid (∀ s, s < j → Slim (T.getD s 0))) (fun _ x _ => m - (intOf x).toNat)
       case atStart => exact ⟨0, Nat.zero_le _, rfl, hZ (FrOwn.nil _ _ h55), hZ (fun s hs => absurd hs (by omega))⟩
       case round =>
        rename World => wz
        obtain ⟨j, hj, rfl, hO, hSM⟩ := hrel
        have hbz := hO.out.bel
        by_cases hlt2 : j < m
        · have hltJ : (j : Int) < (m : Int) := by omega
          obtain ⟨y0, y1, y2, y3, y4⟩ := HY.out wz hbz
          have zy := cell_lt y0
          obtain ⟨rb', rc', er, -, -, -, -, hcell⟩ := (HU5.out.keep hbz).view (by rw [HUL.out]; omega)
          obtain ⟨e1', -, -⟩ := Value.slice.inj er
          obtain rfl : rb = rb' := by simpa using e1'
          obtain ⟨ux, xx, hxr⟩ := hcell na (by rw [HUL.out]; omega)
          obtain ⟨uy, yy, hyr⟩ := hcell nb (by rw [HUL.out]; omega)
          obtain ⟨xaA, xc, rfl⟩ := FrRow.ex hxr
          obtain ⟨yaA, yc, rfl⟩ := FrRow.ex hyr
          rw [hrA] at xx hxr
          rw [hrB] at yy hyr
          obtain ⟨xa, xo, rfl, -, g1, gy1, s1, t1, g2, gy2, s2, t2, x0, x1, x2, x3, xI⟩ := FrRow.at hxr hlt2
          obtain ⟨ya, yo, rfl, -, e1, ey1, es1, et1, e2, ey2, es2, et2, v0, v1, v2, v3, vI⟩ := FrRow.at hyr hlt2
          obtain ⟨hTj, bX, bY⟩ := HTA.out j hlt2
          have hlj : j < T.length := by rw [HTL2.out]; exact hlt2
          have HLN2 := hZ (list_take (d := (0 : Rat)) hlj)
          have HLL := hZ (show (T.take j).length + 1 ≤ 1099511627776 from by rw [List.length_take]; omega)
          have OC := hZ (fun V (q : Below wz.heap.size wz V) => rOp_c op nt na nb c (.agg #[.bool g1, .slice gy1 s1 t1, .bool g2, .slice gy2 s2 t2]) (.agg #[.bool e1, .slice ey1 es1 et1, .bool e2, .slice ey2 es2 et2]) _ _ V HOP.out.1 HOP.out.2.1 HOP.out.2.2 (xI.keep q) (vI.keep q) bX bY)
          rw [← hTj] at OC
          have HBT := hZ (show BdQ 131080 (T.getD j 0) from by rw [hTj]; exact opQ_bd HOP.out.1 HOP.out.2.1 HOP.out.2.2 bX bY)
          obtain ⟨q, hq⟩ : ∃ q, T.getD j 0 = q := ⟨_, rfl⟩
          rw [hq] at OC HBT HLN2
          have HQE := hZ hq
          obtain ⟨L, hL⟩ : ∃ L, T.take j = L := ⟨_, rfl⟩
          rw [hL] at hO HLN2 HLL
          obtain ⟨fa, fc, hfv⟩ := hO.out.ex
          subst hfv
          have hzz := Below.refl wz.heap.size wz
          have HS := hZ (show ∀ W, Below wz.heap.size wz W → W.cell? ⟨IB, 0, none⟩ = some (.int .i64 op) ∧ W.cell? ⟨IB, 1, none⟩ = some (.int .i64 (nt : Int)) ∧ W.cell? ⟨IB, 2, none⟩ = some (.int .i64 (na : Int)) ∧ W.cell? ⟨IB, 3, none⟩ = some (.int .i64 (nb : Int)) ∧ W.cell? ⟨IB, 4, none⟩ = some (.int .i64 c) ∧ W.cell? ⟨rb, na, none⟩ = some (.slice (some ⟨xa, xo, none⟩) m xc) ∧ W.cell? ⟨rb, nb, none⟩ = some (.slice (some ⟨ya, yo, none⟩) m yc) ∧ W.cell? ⟨xa, xo + j * 4, none⟩ = some (.bool g1) ∧ W.cell? ⟨xa, xo + j * 4 + 1, none⟩ = some (.slice gy1 s1 t1) ∧ W.cell? ⟨xa, xo + j * 4 + 2, none⟩ = some (.bool g2) ∧ W.cell? ⟨xa, xo + j * 4 + 3, none⟩ = some (.slice gy2 s2 t2) ∧ W.cell? ⟨ya, yo + j * 4, none⟩ = some (.bool e1) ∧ W.cell? ⟨ya, yo + j * 4 + 1, none⟩ = some (.slice ey1 es1 et1) ∧ W.cell? ⟨ya, yo + j * 4 + 2, none⟩ = some (.bool e2) ∧ W.cell? ⟨ya, yo + j * 4 + 3, none⟩ = some (.slice ey2 es2 et2) from fun W q => ⟨bkeep q y0, bkeep q y1, bkeep q y2, bkeep q y3, bkeep q y4, bkeep q xx, bkeep q yy, bkeep q x0, bkeep q x1, bkeep q x2, bkeep q x3, bkeep q v0, bkeep q v1, bkeep q v2, bkeep q v3⟩)
          have zx := cell_lt x0
          have zv := cell_lt v0
          have zxx := cell_lt xx
          have hnaI : (na : Int) < (k : Int) := by omega
          have hnbI : (nb : Int) < (k : Int) := by omega
          clear hcell hxr hyr er e1' xI vI hTj bX bY hq hL
          go_upto_region 23 with (fail)
          go_cut [19] (fun s19 wx => ∃ xb, s19 = .pointer (some ⟨xb, 0, none⟩) ∧ Hid (VarQR xb q wx) ∧ Below wz.heap.size wz wx)
          case first =>
           have hBj := Below.refl wz.heap.size wz
           go_region_held3 (fun W => W.cell? ⟨IB, 0, none⟩ = some (.int .i64 op) ∧ W.cell? ⟨IB, 1, none⟩ = some (.int .i64 (nt : Int)) ∧ W.cell? ⟨IB, 2, none⟩ = some (.int .i64 (na : Int)) ∧ W.cell? ⟨IB, 3, none⟩ = some (.int .i64 (nb : Int)) ∧ W.cell? ⟨IB, 4, none⟩ = some (.int .i64 c) ∧ W.cell? ⟨rb, na, none⟩ = some (.slice (some ⟨xa, xo, none⟩) m xc) ∧ W.cell? ⟨rb, nb, none⟩ = some (.slice (some ⟨ya, yo, none⟩) m yc) ∧ W.cell? ⟨xa, xo + j * 4, none⟩ = some (.bool g1) ∧ W.cell? ⟨xa, xo + j * 4 + 1, none⟩ = some (.slice gy1 s1 t1) ∧ W.cell? ⟨xa, xo + j * 4 + 2, none⟩ = some (.bool g2) ∧ W.cell? ⟨xa, xo + j * 4 + 3, none⟩ = some (.slice gy2 s2 t2) ∧ W.cell? ⟨ya, yo + j * 4, none⟩ = some (.bool e1) ∧ W.cell? ⟨ya, yo + j * 4 + 1, none⟩ = some (.slice ey1 es1 et1) ∧ W.cell? ⟨ya, yo + j * 4 + 2, none⟩ = some (.bool e2) ∧ W.cell? ⟨ya, yo + j * 4 + 3, none⟩ = some (.slice ey2 es2 et2))
            (first | (refine HS.out _ ?_; (repeat' (first | exact Below.refl _ _ | exact hBj | refine Below.drew ?_ | refine below_drewN ?_ _ | refine bal ?_ _ | refine bset ?_ ?_ _ | exact hla6 | exact Nat.le_trans hla6 (Nat.le_succ _) | exact Nat.le_refl _ | exact Nat.le_succ _)); done) | fail)
            (first
            | (go_at_call 195; (with_reducible refine (OC.out _ ?_).mono ?_); (repeat (first|exact bzR _ _|exact hBj|refine bzD ?_|refine bzN ?_|refine bzS ?_|refine bzA ?_)); rintro e w6 ⟨⟨u6, rfl, hu6⟩, hb6⟩; (replace hBj : Below wz.heap.size wz w6 := bthen bZ hb6); have HU6 := hZ hu6; obtain ⟨m1, b1, k1, d1, m2, b2, k2, d2, rfl, -, -⟩ := hu6; have hc6 := (bcell hb6).1; have hf6 := (bcell hb6).2; have ht6 := tcell hb6; have hla6 := hBj.size; have hs6 := hb6.size; (try simp [go_sem] at hs6); have HB6 := hZ hb6)
            | fail)
           all_goals
            go_wp2_with fail
            go_meet
            refine ⟨_, rfl, hZ ?_, ?_⟩
            all_goals first
             | exact VarQR.mk1 HU6.out
             | exact VarQR.mk2 rfl (bthen (Below.refl _ _).drew HB6.out) HU6.out
             | ((repeat' (first | exact Below.refl _ _ | exact hBj | refine Below.drew ?_ | refine below_drewN ?_ _ | refine bal ?_ _ | refine bset ?_ ?_ _ | exact Nat.le_refl _)); done)
          case rest =>
           obtain ⟨xb, rfl, hV, hkz⟩ := hcut
           have hfr := hV.out.fr
           obtain ⟨m1, b1, k1, d1, m2, b2, k2, d2, z0, z1, z2, z3, zI⟩ := hV.out.at_
           have HZI := hZ zI
           have zz := cell_lt z0
           have hcc := Below.refl wc.heap.size wc
           have WC := hZ (fun V (k : Below wc.heap.size wc V) => rWide_c _ q 131080 V (HZI.out.keep k) HBT.out (by omega))
           clear hV zI OC HS
           by_cases hs : Slim q
           · rw [decide_eq_false (show ¬ ¬ Slim q from fun h => h hs)] at WC
             have HSN := hZ (show ∀ s, s < j + 1 → Slim (T.getD s 0) from fun s h => by
              by_cases e : s = j
              · subst e; rw [HQE.out]; exact hs
              · exact hSM.out s (by omega))
             clear hs
             go_wp2_with fail
             (with_reducible refine (WC.out _ ?_).mono ?_); (repeat (first|exact bzR _ _|exact hcc|refine bzD ?_|refine bzN ?_|refine bzS ?_|refine bzA ?_))
             rintro e w7 ⟨rfl, hb7⟩
             have hc7 : Below wc.heap.size wc w7 := bthen bZ hb7
             have z0 := bkeep hc7 z0
             have z1 := bkeep hc7 z1
             have z2 := bkeep hc7 z2
             have z3 := bkeep hc7 z3
             have zz7 := cell_lt z0
             have HI7 := hZ (HZI.out.keep hc7)
             have HO7 := hZ (hO.out.below frk_ref (bthen hkz hc7))
             clear hb7 WC hcc
             go_wp2_with (at_builtin; refine app_q elRW (by decide) frk_ref (by rfl) (by rfl) HO7.out HI7.out (by rfl) (by rfl) HLL.out ?_)
             intro v' w8 hO8 _ _
             have HO8 := hZ hO8
             rw [HLN2.out] at HO8
             clear hO8
             go_wp2
             exact ⟨⟨j + 1, hlt2, by go_num, HO8, HSN⟩, meas hlt2 (by go_num) rfl⟩
           · rw [decide_eq_true hs] at WC
             have HNS := hZ (show afterF code g (n + 1) = none from by
              rw [afterF_next HU.out, if_neg (fun h => by
               have h2 := h j (by rw [HTQ.out]; exact hlj)
               rw [HTQ.out, HQE.out] at h2
               exact hs h2)])
             clear hs
             go_wp2_with fail
             (with_reducible refine (WC.out _ ?_).mono ?_); (repeat (first|exact bzR _ _|exact hcc|refine bzD ?_|refine bzN ?_|refine bzS ?_|refine bzA ?_))
             rintro e w7 ⟨rfl, hb7⟩
             have h57 : Below w5.heap.size w5 w7 := bthen hbz (bthen hkz (bthen bZ hb7))
             have HTS := hZ (show SetR w.heap.size w7 (.slice ta n tc) ((List.range n).map (toldQ code g)) from by rw [HTE.out]; exact (HT5.out.keep h57).rebase (by omega))
             have HBW := hZ (bthen HB0.out (bthen HB5.out h57))
             clear hb7 WC hcc z0 z1 z2 z3
             go_wp2
             refine bodyPost_ret (v := .tuple #[.slice ta n tc, .slice none 0 0, .bool false]) (by simp [results, Tryz.results100, go_sem]) rfl (RunRP.no hlt HU.out HNS.out HTS.out HBW.out)
        · obtain rfl : j = m := by omega
          have hltJ : ¬ (j : Int) < (j : Int) := by omega
          have hbz := hO.out.bel
          have HSLM := hZ (show SlimR (toldQ code g n) from fun s h => by
           rw [HTQ.out] at h ⊢
           rw [HTL2.out] at h
           exact hSM.out s h)
          rw [List.take_of_length_le (by rw [HTL2.out]; exact Nat.le_refl _)] at hO
          have HFR := hZ (show FR wz _ T from FrRow.rebase hO.out.row (Nat.zero_le _))
          obtain ⟨fa, fc, hfv⟩ := hO.out.ex
          subst hfv
          rw [HTL2.out] at HFR ⊢
          obtain ⟨y0, y1, y2, y3, y4⟩ := HY.out wz hbz
          have zy := cell_lt y1
          obtain ⟨rb', rc', er, -, -, hfree, htyp, hcell⟩ := (HU5.out.keep hbz).view (by rw [HUL.out]; omega)
          obtain ⟨e1', -, -⟩ := Value.slice.inj er
          obtain rfl : rb = rb' := by simpa using e1'
          obtain ⟨uo, xx, -⟩ := hcell nt (by rw [HUL.out]; omega)
          have zxx := cell_lt xx
          have xxf := hfree.2 nt
          have hntI : (nt : Int) < (k : Int) := by omega
          have hTO := HT5.out.keep hbz
          have hkp : Kp (· ≠ 44) wz (wz.setCell ⟨rb, nt, none⟩ (.slice fa j fc)) := (Kp.refl _ wz).set (fun t ht hs => by dsimp only at ht; rw [htyp] at ht; exact hs (Option.some.inj ht).symm) _
          have hoS : Out (fun q => q = rb) wz (wz.setCell ⟨rb, nt, none⟩ (.slice fa j fc)) := (Out.refl (fun q => q = rb) wz).set (p := ⟨rb, nt, none⟩) (fun _ => rfl) _
          have HU8 := hZ ((HU5.out.keep hbz).set' HUL.out hntk HFR.out)
          have HT8 := hZ (hTO.out hoS (fun q hq e => by have := hTO.lt q hq; omega) hkp)
          have HR8 := hZ (HFR.out.kp hkp)
          have HB8 := hZ (bset (bthen HB5.out hbz) (p := ⟨rb, nt, none⟩) hrb (.slice fa j fc))
          have hz8 : wr.heap.size ≤ (wz.setCell ⟨rb, nt, none⟩ (.slice fa j fc)).heap.size := by rw [World.size_setCell]; exact Nat.le_trans hz5 hbz.size
          have HLL := hZ (show TS.length + 1 ≤ 1099511627776 from by rw [HTL.out]; omega)
          have HAF := hZ (show afterF code g (n + 1) = some (u.set nt T) from by
           rw [afterF_next HU.out, if_pos HSLM.out, HIE.out, HTQ.out]; rfl)
          clear hO hfree htyp hcell hTO hkp hoS er e1' HSLM
          go_upto_region 28 with (fail)
          refine wp_name fun w8 hW8 => ?_
          rw [← hW8] at HU8 HT8 HR8 HB8 hz8
          have HZ8 := hZ hz8
          clear hW8 xx y0 y1 y2 y3 y4 xxf
          go_wp2_with (at_builtin; refine app_R (by rfl) (by rfl) HT8.out HR8.out HZ8.out (by rfl) (by rfl) HLL.out ?_)
          intro v' w9 hT9 ho9 hk9
          have HT9 := hZ hT9
          rw [HTN.out] at HT9
          have HU9 := hZ (show ∃ u, afterF code g (n + 1) = some u ∧ SetR w0.heap.size w9 (.slice (some ⟨rb, 0, none⟩) k rc) u from ⟨_, HAF.out, HU8.out.out ho9 (fun q hq hx => by
           have h1 := HT8.out.lt q hx
           have h2 : rb = q := by simpa [Value.ownBlock] using hq
           omega) hk9⟩)
          have hB9 : Below w0.heap.size w0 w9 := HB8.out.trans (ho9.to_below (fun q hq hx e => by have := HT8.out.lt q e; omega) HB8.out.size)
          have hz9 : wr.heap.size ≤ w9.heap.size := Nat.le_trans hz8 ho9.size
          clear hT9 ho9 hk9
          go_wp2
          exact ⟨⟨n + 1, hlt, by go_num, hB9, hz9, HU9, HT9⟩, meas hlt (by go_num) rfl⟩
     · obtain rfl : n = code.length := by omega
       have hltI : ¬ (code.length : Int) < (code.length : Int) := by omega
       have HTS := hZ (show SetR w.heap.size wq (.slice ta code.length tc) ((List.range code.length).map (toldQ code g)) from by rw [HTE.out]; exact hT.out.rebase (by omega))
       have HBW := hZ (bthen HB0.out hBq)
       have hqq := Below.refl wq.heap.size wq
       have hzw : w.heap.size ≤ wq.heap.size := by omega
       clear hT hU hu hUS
       go_wp2
       go_loopw [20, 21] (fun vo x wz => ∃ i : Nat, i ≤ outs.length ∧ x = .int .i64 i ∧ Below wq.heap.size wq wz ∧ Hid (SetR wq.heap.size wz vo ((outsF outs u).take i))) (fun _ x _ => outs.length - (intOf x).toNat)
       case atStart => exact ⟨0, Nat.zero_le _, rfl, hqq, hZ (SetR.nil _ _)⟩
       case round =>
        rename World => wz
        obtain ⟨i, hi, rfl, hBz, hO⟩ := hrel
        obtain ⟨p1, p2, p3⟩ := HP.out wz (bthen hBq hBz)
        have zp := cell_lt p3
        obtain ⟨oa2, oc2, hov⟩ := hO.out.ex
        subst hov
        have hol2 : ((outsF outs u).take i).length = i := by rw [List.length_take, outsF_len]; omega
        rw [hol2] at hO ⊢
        by_cases hlt2 : i < outs.length
        · have hltJ : (i : Int) < (outs.length : Int) := by omega
          rcases HC.out.2 with h00 | ⟨ob, oo, rfl, hcap, hcell⟩
          · rw [h00] at hlt2; simp at hlt2
          have hoc := bkeep (bthen HBW.out hBz) (hcell i hlt2)
          obtain ⟨ho0, ho1⟩ := HOS.out i hlt2
          have hOG := outsF_get (h := u) hlt2
          have hOT := list_take (d := ([] : List Rat)) (show i < (outsF outs u).length by rw [outsF_len]; exact hlt2)
          rw [hOG] at hOT
          obtain ⟨q, hq⟩ : ∃ q : Nat, outs.getD i 0 = q := ⟨(outs.getD i 0).toNat, by omega⟩
          rw [hq] at hoc ho1 hOT
          rw [Int.toNat_natCast] at hOT
          have hqk : q < k := by omega
          obtain ⟨rb', rc', er, -, -, -, -, hcel2⟩ := (HUS.out.keep hBz).view (by rw [HUL.out]; omega)
          obtain ⟨e1', -, -⟩ := Value.slice.inj er
          obtain rfl : rb = rb' := by simpa using e1'
          obtain ⟨ur, xx, hr⟩ := hcel2 q (by rw [HUL.out]; exact hqk)
          obtain ⟨fa, fc, rfl⟩ := FrRow.ex hr
          obtain ⟨RW, hRW⟩ : ∃ r, u.getD q [] = r := ⟨_, rfl⟩
          rw [hRW] at hr hOT xx
          have HR := hZ hr
          have HOT := hZ hOT
          have HLL := hZ (show ((outsF outs u).take i).length + 1 ≤ 1099511627776 from by rw [hol2]; omega)
          obtain ⟨OS, hOS⟩ : ∃ O, (outsF outs u).take i = O := ⟨_, rfl⟩
          rw [hOS] at hO HLL HOT
          obtain ⟨FL, hFL⟩ : ∃ l, RW.length = l := ⟨_, rfl⟩
          rw [hFL] at HR xx
          have zo := cell_lt hoc
          have zxx := cell_lt xx
          have HZ := hZ hBz.size
          clear hcell hcap hOG hOT hq hcel2 er e1' hr hOS hFL hRW ho0 hol2
          go_wp2_with (at_builtin; refine app_R (by rfl) (by rfl) hO.out HR.out HZ.out (by rfl) (by rfl) HLL.out ?_)
          intro v' w9 hO9 ho9 hk9
          have HO9 := hZ hO9
          rw [HOT.out] at HO9
          have hB9 : Below wq.heap.size wq w9 := hBz.trans (ho9.to_below (fun q hq hx e => by have := hO.out.lt q e; omega) hBz.size)
          clear hO9 ho9 hk9
          go_wp2
          exact ⟨⟨i + 1, hlt2, by go_num, hB9, HO9⟩, meas hlt2 (by go_num) rfl⟩
        · obtain rfl : i = outs.length := by omega
          have hltJ : ¬ (outs.length : Int) < (outs.length : Int) := by omega
          rw [List.take_of_length_le (by rw [outsF_len]; exact Nat.le_refl _)] at hO
          have HOF := hZ (hO.out.rebase hzw)
          have HTF := hZ (HTS.out.keep hBz)
          have HBF := hZ (bthen HBW.out hBz)
          clear hO HTS HBW hol2
          go_wp2
          refine bodyPost_ret (v := .tuple #[.slice ta code.length tc, .slice oa2 outs.length oc2, .bool true]) (by simp [results, Tryz.results100, go_sem]) rfl (RunRP.yes HU.out HTF.out HOF.out HBF.out)
end
theorem mayB_34 {op t a b c regs : Int} (h : op = 3 ∨ op = 4) : mayB op t a b c regs = decide (0 ≤ t ∧ t < regs ∧ c = 0 ∧ 0 ≤ a ∧ a < regs ∧ 0 ≤ b ∧ b < regs) := by
 unfold mayB; rcases h with rfl | rfl <;> (rw [Bool.eq_iff_iff]; simp [twoB, constB] <;> omega)
theorem mayB_12 {op t a b c regs : Int} (h : op = 1 ∨ op = 2) : mayB op t a b c regs = decide (0 ≤ t ∧ t < regs ∧ c = 0 ∧ 0 ≤ a ∧ a < regs ∧ b = 0) := by
 unfold mayB; rcases h with rfl | rfl <;> (rw [Bool.eq_iff_iff]; simp [twoB, constB] <;> omega)
theorem mayB_56 {op t a b c regs : Int} (h : op = 5 ∨ op = 6) : mayB op t a b c regs = decide (0 ≤ t ∧ t < regs ∧ c ≠ 0 ∧ -512 ≤ c ∧ c ≤ 512 ∧ 0 ≤ a ∧ a < regs ∧ b = 0) := by
 unfold mayB; rcases h with rfl | rfl <;> (rw [Bool.eq_iff_iff]; simp [twoB, constB] <;> omega)
theorem mayB_78 {op t a b c regs : Int} (h : op = 7 ∨ op = 8) : mayB op t a b c regs = decide (0 ≤ t ∧ t < regs ∧ 1 ≤ c ∧ c ≤ 64 ∧ 0 ≤ a ∧ a < regs ∧ b = 0) := by
 unfold mayB; rcases h with rfl | rfl <;> (rw [Bool.eq_iff_iff]; simp [twoB, constB] <;> omega)
theorem rmay_c (op t a b c regs : Int) (w : World) : Calls Tryz.prog 253 #[.agg #[.int .i64 op, .int .i64 t, .int .i64 a, .int .i64 b, .int .i64 c], .int .i64 regs] w fun e w' => e = .returned (.bool (mayB op t a b c regs)) ∧ Below w.heap.size w w' := by
 by_cases h1 : op < 1
 · have HM := hZ (show mayB op t a b c regs = false from mayB_no (by omega))
   go_enter Tryz.func253, Tryz.ntmps253
   go_wp2
   go_ret
   exact ⟨bret (by rw [HM.out]), by repeat (first | exact Below.refl _ _ | assumption | refine bset ?_ (by simp) _ | refine bal ?_ _)⟩
 by_cases h2 : 8 < op
 · have HM := hZ (show mayB op t a b c regs = false from mayB_no (by omega))
   go_enter Tryz.func253, Tryz.ntmps253
   go_wp2
   go_ret
   exact ⟨bret (by rw [HM.out]), by repeat (first | exact Below.refl _ _ | assumption | refine bset ?_ (by simp) _ | refine bal ?_ _)⟩
 by_cases h3 : t < 0
 · have HM := hZ (show mayB op t a b c regs = false from mayB_no (by omega))
   go_enter Tryz.func253, Tryz.ntmps253
   go_wp2
   go_ret
   exact ⟨bret (by rw [HM.out]), by repeat (first | exact Below.refl _ _ | assumption | refine bset ?_ (by simp) _ | refine bal ?_ _)⟩
 by_cases h4 : regs ≤ t
 · have HM := hZ (show mayB op t a b c regs = false from mayB_no (by omega))
   go_enter Tryz.func253, Tryz.ntmps253
   go_wp2
   go_ret
   exact ⟨bret (by rw [HM.out]), by repeat (first | exact Below.refl _ _ | assumption | refine bset ?_ (by simp) _ | refine bal ?_ _)⟩
 by_cases h5 : a < 0
 · have HM := hZ (show mayB op t a b c regs = false from mayB_no (by omega))
   go_enter Tryz.func253, Tryz.ntmps253
   go_wp2
   go_ret
   exact ⟨bret (by rw [HM.out]), by repeat (first | exact Below.refl _ _ | assumption | refine bset ?_ (by simp) _ | refine bal ?_ _)⟩
 by_cases h6 : regs ≤ a
 · have HM := hZ (show mayB op t a b c regs = false from mayB_no (by omega))
   go_enter Tryz.func253, Tryz.ntmps253
   go_wp2
   go_ret
   exact ⟨bret (by rw [HM.out]), by repeat (first | exact Below.refl _ _ | assumption | refine bset ?_ (by simp) _ | refine bal ?_ _)⟩
 have hop : op = 1 ∨ op = 2 ∨ op = 3 ∨ op = 4 ∨ op = 5 ∨ op = 6 ∨ op = 7 ∨ op = 8 := by omega
 have h12 : ¬ op < 1 ∧ ¬ 8 < op := ⟨h1, h2⟩
 clear h1 h2 h12
 rcases hop with rfl | rfl | rfl | rfl | rfl | rfl | rfl | rfl
 ·
  rw [mayB_12 (.inl rfl)]
  go_enter Tryz.func253, Tryz.ntmps253
  go_wp2
  all_goals go_ret
  all_goals exact ⟨bret (by first | (rw [Bool.eq_iff_iff]; done) | (rw [Bool.eq_iff_iff]; simp; first | done | omega | (simp_all; done) | (simp_all; omega))), by repeat (first | exact Below.refl _ _ | assumption | refine bset ?_ (by simp) _ | refine bal ?_ _)⟩
 ·
  rw [mayB_12 (.inr rfl)]
  go_enter Tryz.func253, Tryz.ntmps253
  go_wp2
  all_goals go_ret
  all_goals exact ⟨bret (by first | (rw [Bool.eq_iff_iff]; done) | (rw [Bool.eq_iff_iff]; simp; first | done | omega | (simp_all; done) | (simp_all; omega))), by repeat (first | exact Below.refl _ _ | assumption | refine bset ?_ (by simp) _ | refine bal ?_ _)⟩
 ·
  rw [mayB_34 (.inl rfl)]
  go_enter Tryz.func253, Tryz.ntmps253
  go_wp2
  all_goals go_ret
  all_goals exact ⟨bret (by first | (rw [Bool.eq_iff_iff]; done) | (rw [Bool.eq_iff_iff]; simp; first | done | omega | (simp_all; done) | (simp_all; omega))), by repeat (first | exact Below.refl _ _ | assumption | refine bset ?_ (by simp) _ | refine bal ?_ _)⟩
 ·
  rw [mayB_34 (.inr rfl)]
  go_enter Tryz.func253, Tryz.ntmps253
  go_wp2
  all_goals go_ret
  all_goals exact ⟨bret (by first | (rw [Bool.eq_iff_iff]; done) | (rw [Bool.eq_iff_iff]; simp; first | done | omega | (simp_all; done) | (simp_all; omega))), by repeat (first | exact Below.refl _ _ | assumption | refine bset ?_ (by simp) _ | refine bal ?_ _)⟩
 ·
  rw [mayB_56 (.inl rfl)]
  go_enter Tryz.func253, Tryz.ntmps253
  go_wp2
  all_goals go_ret
  all_goals exact ⟨bret (by first | (rw [Bool.eq_iff_iff]; done) | (rw [Bool.eq_iff_iff]; simp; first | done | omega | (simp_all; done) | (simp_all; omega))), by repeat (first | exact Below.refl _ _ | assumption | refine bset ?_ (by simp) _ | refine bal ?_ _)⟩
 ·
  rw [mayB_56 (.inr rfl)]
  go_enter Tryz.func253, Tryz.ntmps253
  go_wp2
  all_goals go_ret
  all_goals exact ⟨bret (by first | (rw [Bool.eq_iff_iff]; done) | (rw [Bool.eq_iff_iff]; simp; first | done | omega | (simp_all; done) | (simp_all; omega))), by repeat (first | exact Below.refl _ _ | assumption | refine bset ?_ (by simp) _ | refine bal ?_ _)⟩
 ·
  rw [mayB_78 (.inl rfl)]
  go_enter Tryz.func253, Tryz.ntmps253
  go_wp2
  all_goals go_ret
  all_goals exact ⟨bret (by first | (rw [Bool.eq_iff_iff]; done) | (rw [Bool.eq_iff_iff]; simp; first | done | omega | (simp_all; done) | (simp_all; omega))), by repeat (first | exact Below.refl _ _ | assumption | refine bset ?_ (by simp) _ | refine bal ?_ _)⟩
 ·
  rw [mayB_78 (.inr rfl)]
  go_enter Tryz.func253, Tryz.ntmps253
  go_wp2
  all_goals go_ret
  all_goals exact ⟨bret (by first | (rw [Bool.eq_iff_iff]; done) | (rw [Bool.eq_iff_iff]; simp; first | done | omega | (simp_all; done) | (simp_all; omega))), by repeat (first | exact Below.refl _ _ | assumption | refine bset ?_ (by simp) _ | refine bal ?_ _)⟩
section
open Num
attribute [local go_sem ↓] Go.wp_at_zero Go.wp_at_succ
def BoolAny (w : World) (e : Ending) (w' : World) : Prop := (∃ b, e = .returned (.bool b)) ∧ Below w.heap.size w w'
theorem long9_c (ins regs : Int) (ca oa : Option Addr) (cl cc ol oc : Nat) (w : World) : Calls Tryz.prog 15 #[.agg #[.int .i64 ins, .int .i64 regs, .slice ca cl cc, .slice oa ol oc]] w (BoolAny w) := by
 have hB := Below.refl w.heap.size w
 go_enter Tryz.func15, Tryz.ntmps15
 go_wp2
 all_goals go_ret
 all_goals exact ⟨⟨_, rfl⟩, bZ⟩
end
section
open Num
attribute [local go_sem ↓] Go.wp_at_zero Go.wp_at_succ
theorem list9_c (v : Value) (l : List Int) (w : World) (hr : RowI w v l) (hl : l.length ≤ 1099511627774) :
 Calls Tryz.prog 33 #[v] w fun e w' => (∃ va, e = .returned va ∧ RowO IsInt 50 w.heap.size w' va l) ∧ Below w.heap.size w w' := by
 obtain ⟨ra, rc, rfl, hr⟩ := hr
 have HR := hZ hr
 clear hr
 have hB := Below.refl w.heap.size w
 go_enter Tryz.func33, Tryz.ntmps33
 go_wp2
 go_loopw [3, 8] (fun va x wr => ∃ j : Nat, j ≤ l.length ∧ x = .int .i64 j ∧ Hid (OwnF IsInt 50 w wr va j (fun i => l.getD i 0))) (fun _ x _ => l.length - (intOf x).toNat)
 case atStart => exact ⟨0, Nat.zero_le _, rfl, hZ (OwnF.nil _ _ _ hB)⟩
 case round =>
  obtain ⟨j, hj, rfl, hF⟩ := hrel
  have hBr := hF.out.bel
  obtain ⟨fa, fc, hfv⟩ : ∃ a c, _ = Value.slice a j c := by obtain ⟨a, c, h, _⟩ := hF.out.view; exact ⟨a, c, h⟩
  subst hfv
  by_cases hlt : j < l.length
  · have hltI : (j : Int) < (l.length : Int) := by omega
    obtain ⟨rb, ro, rfl, hc, hI⟩ := HR.out j hlt
    have hc2 := bkeep hBr hc
    have zrb := cell_lt hc2
    have oc := fun W => of_c (l.getD j 0) W hI.1 hI.2
    have HSN := hZ (snoc_fun l j hlt)
    obtain ⟨z, hz⟩ : ∃ z, l.getD j 0 = z := ⟨_, rfl⟩
    rw [hz] at hc2 oc HSN
    clear hc hI hz
    go_wp2_with fail
    refine (oc _).mono ?_
    rintro e w5 ⟨⟨v5, rfl, hi5⟩, hb5⟩
    have HF5 := hZ (hF.out.below lims_int hb5)
    have HI5 := hZ hi5
    obtain ⟨n5, a5, c5, l5, rfl, -⟩ := hi5
    unfold iv at *
    clear oc hc2
    go_wp2_with (at_builtin; refine app_num elInt (by decide) lims_int (by rfl) (by rfl) HF5.out HI5.out (by rfl) (by rfl) (by omega) ?_)
    intro v8 w8 hF8 _ _
    have HF8 := hZ (hF8.congr' HSN.out)
    clear hF8
    go_wp2
    exact ⟨⟨j + 1, by omega, by go_num, HF8⟩, by simp [intOf]; omega⟩
  · obtain rfl : j = l.length := by omega
    go_wp2
    go_ret
    exact ⟨⟨_, rfl, hF.out.rowO⟩, hBr⟩
end
end Go.Proofs.YtbmaffijncapiaaGreatDoor
