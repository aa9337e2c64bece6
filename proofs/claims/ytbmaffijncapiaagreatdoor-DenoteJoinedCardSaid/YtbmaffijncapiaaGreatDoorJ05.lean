/- Texts of this seat, laid together (what the earlier ones leave out): DnQ, DwN, DnS, DwP. Each opens with its own remark, which says what it proves, and under which conditions. -/
import Derived.Test.YtbmaffijncapiaaGreatDoorL01
import Derived.Test.YtbmaffijncapiaaGreatDoorL02
import Derived.Test.YtbmaffijncapiaaGreatDoorL03
import Derived.Test.YtbmaffijncapiaaGreatDoorL04
import Derived.Test.YtbmaffijncapiaaGreatDoorL05
import Derived.Test.YtbmaffijncapiaaGreatDoorL06
import Derived.Test.YtbmaffijncapiaaGreatDoorL07
import Derived.Test.YtbmaffijncapiaaGreatDoorL08
import Derived.Test.YtbmaffijncapiaaGreatDoorL09
import Derived.Test.YtbmaffijncapiaaGreatDoorL10
import Derived.Test.YtbmaffijncapiaaGreatDoorL11
import Derived.Test.YtbmaffijncapiaaGreatDoorL12
import Derived.Test.YtbmaffijncapiaaGreatDoorL13
import Derived.Test.YtbmaffijncapiaaGreatDoorL14
import Derived.Test.YtbmaffijncapiaaGreatDoorL15
import Derived.Test.YtbmaffijncapiaaGreatDoorL16
import Derived.Test.YtbmaffijncapiaaGreatDoorL17
import Derived.Test.YtbmaffijncapiaaGreatDoorL18
import Derived.Test.YtbmaffijncapiaaGreatDoorL19
import Derived.Test.YtbmaffijncapiaaGreatDoorL20
import Derived.Test.YtbmaffijncapiaaGreatDoorL21
import Derived.Test.YtbmaffijncapiaaGreatDoorL22
import Derived.Test.YtbmaffijncapiaaGreatDoorL23
import Derived.Test.YtbmaffijncapiaaGreatDoorL24
import Derived.Test.YtbmaffijncapiaaGreatDoorJ01
import Derived.Test.YtbmaffijncapiaaGreatDoorJ02
import Derived.Test.YtbmaffijncapiaaGreatDoorJ03
import Derived.Test.YtbmaffijncapiaaGreatDoorJ04
import Derived.WalkKit
import Derived.ProofKit
import Derived.OpenShut
import Derived.Deep.QuietTactic
import Derived.BigQuiet
import Derived.Outline
import Derived.Lib.Hide
import Derived.WalkSmall
import Derived.WalkSpells
import Derived.WalkLawsBesides
import Derived.Deep.RegionWith
import Derived.Deep.RegionHeld3
import Derived.Laws.CopyOwn
import Derived.Shelf.Small.Bits
import Derived.Laws.AppendOwn
import Derived.Deep.AppendLies
import Derived.OneCell
import Derived.Laws.BitsAllLaws
import Derived.Shelf.Spec.TrailingZeros
import Derived.Shelf.Strings.Builder1
import Derived.Shelf.Strings.Trim
import Derived.Deep.Cut
import Derived.Deep.DeepCutAuto
import Derived.ArgAppend
import Derived.Deep.DeepFit
import Derived.Shelf.Abstract
import Derived.Laws.EntriesVeiled
import Derived.RegionTactic
import Derived.ChangeAlike
import Derived.Laws.OwnMore
import Derived.Deep.Onto
import Derived.Deep.DrawnRows
import Derived.Deep.RegionLaw
import Derived.Deep.LoopGhost
import Derived.RangeFuncNested
import Derived.RangeFuncBound
import Derived.RangeFuncCalls
import Derived.RangeFuncLeaves
import Derived.Shelf.RegionOpen
import Derived.OwnWalkIn
import Derived.TacticsInMore
import Derived.LoopNIn
import Derived.LoopIn
import Derived.Laws.CopyRow
import Derived.Laws.Rows
import Derived.Laws.Tables
import Derived.StillTail
import Derived.Deep.Quiet
import Derived.StillTailTactics
import Derived.Lib.AppendZeros
import Derived.Laws.IdiomStrings
import Derived.Laws.BytesArg
import Derived.Laws.RangeString
import Derived.Lib.OthersKept
import Derived.Maps.AppendAt
import Derived.Shelf.Strings.OnBuilder
import Derived.Lib.SmallJoins
import Derived.Deep.Slices
import Derived.Deep.Matrix
import Derived.Deep.Fields
import Derived.ChangeSame
import Derived.DataShut
import Derived.SizedLaws
set_option linter.unusedVariables false
set_option linter.unusedSimpArgs false
/- denote: Matrix: what a program denotes, over one number. -/
namespace Go.Proofs.YtbmaffijncapiaaGreatDoor
open Num
open Go.ChangeShapes Go.WideShapes Go.ChangeAt Go.RowKit
attribute [local go_sem ↓] Go.wp_at_zero Go.wp_at_succ
theorem flatF_len {m : Nat} : ∀ {F : GridF}, RectF m F → F.flatten.length = F.length * m
  | [], _ => by simp
  | r :: F, h => by
    have h0 : r.length = m := h 0 (by simp)
    have h1 : RectF m F := fun i hi => h (i + 1) (by simpa using hi)
    rw [List.flatten_cons, List.length_append, flatF_len h1, h0, List.length_cons, Nat.add_mul, Nat.one_mul, Nat.add_comm]
theorem flatF_get {m : Nat} : ∀ {F : GridF}, RectF m F → ∀ {i j : Nat}, i < F.length → j < m → F.flatten.getD (i * m + j) 0 = (F.getD i []).getD j 0
  | [], _, i, j, hi, _ => absurd hi (by simp)
  | r :: F, h, i, j, hi, hj => by
    have h0 : r.length = m := h 0 (by simp)
    have h1 : RectF m F := fun i hi => h (i + 1) (by simpa using hi)
    rw [List.flatten_cons]
    cases i with
    | zero => rw [Nat.zero_mul, Nat.zero_add, appq_lt (by omega)]; simp
    | succ i =>
      have e : (i + 1) * m + j = m + (i * m + j) := by rw [Nat.add_mul, Nat.one_mul]; omega
      rw [appq_ge (by omega), e, h0, Nat.add_sub_cancel_left, flatF_get h1 (by simpa using hi) hj]; simp
theorem flatF_bd {k m : Nat} {F : GridF} (hr : RectF m F) (hb : BdF k F) : ∀ t, t < F.flatten.length → BdQ k (F.flatten.getD t 0) := by
  intro t ht
  rw [flatF_len hr] at ht
  have hm : 0 < m := by rcases Nat.eq_zero_or_pos m with h | h; subst h; simp at ht; exact h
  have hi : t / m < F.length := (Nat.div_lt_iff_lt_mul hm).2 ht
  have hj := Nat.mod_lt t hm
  have e : t = t / m * m + t % m := by rw [Nat.mul_comm]; exact (Nat.div_add_mod t m).symm
  rw [e, flatF_get hr hi hj]
  exact hb _ hi _ (by rw [hr _ hi]; exact hj)
def matD (F : GridF) : Int := comD F.flatten
def matG (F : GridF) : Grid := F.map fun r => r.map fun q => q.num * (matD F / (q.den : Int))
theorem matG_len (F : GridF) : (matG F).length = F.length := by simp [matG]
theorem matG_row {F : GridF} {i : Nat} (h : i < F.length) : (matG F).getD i [] = (F.getD i []).map fun q => q.num * (matD F / (q.den : Int)) := by simp [matG, h]
theorem matG_rct {F : GridF} {m : Nat} (hr : RectF m F) : Rct (matG F) m := fun i hi => by
  rw [matG_len] at hi
  rw [matG_row hi, List.length_map]; exact hr i hi
theorem map_getDq {r : List Rat} {f : Rat → Int} {j : Nat} (h : j < r.length) : (r.map f).getD j 0 = f (r.getD j 0) := by simp [h]
theorem matG_at {F : GridF} {m i j : Nat} (hr : RectF m F) (hi : i < F.length) (hj : j < m) : gat (matG F) i j = ((F.getD i []).getD j 0).num * (matD F / (((F.getD i []).getD j 0).den : Int)) := by
  have hl := hr i hi
  unfold gat
  rw [matG_row hi, map_getDq (by omega)]
theorem gat_far {g : Grid} {i j : Nat} (h : g.length ≤ i ∨ (g.getD i []).length ≤ j) : gat g i j = 0 := by
  unfold gat
  rcases h with h | h
  · have : g.getD i [] = [] := by simp [List.getD_eq_getElem?_getD, List.getElem?_eq_none h]
    rw [this]; rfl
  · simp [List.getD_eq_getElem?_getD] at h ⊢
    rw [List.getElem?_eq_none h]; rfl
theorem matG_bd {F : GridF} {m k : Nat} (hr : RectF m F) (hb : BdF k F) : BdM (k + (k * (F.length * m) + 1)) (matG F) := fun i j => by
  by_cases hi : i < F.length
  · by_cases hj : j < m
    · rw [matG_at hr hi hj]
      have h1 := hb i hi j (by rw [hr i hi]; exact hj)
      have h2 := (comD_bd (flatF_bd hr hb) F.flatten.length (Nat.le_refl _)).2
      rw [List.take_length, flatF_len hr] at h2
      exact Bd.mul h1.1 (bd_ediv h2 _)
    · rw [gat_far (.inr (by rw [matG_rct hr i (by rw [matG_len]; exact hi)]; omega))]
      unfold Bd; exact Nat.two_pow_pos _
  · rw [gat_far (.inl (by rw [matG_len]; omega))]
    unfold Bd; exact Nat.two_pow_pos _
theorem chunk_rows {B m N base : Nat} {f : Nat → Int} {w : World} {v : Value} {g : Grid} (h : IsL 68 (PCh B m) base w v (List.range N)) (hi : IntsF IsInt w B 0 (N * m) f) (ht : typOf w B = some 50) (hg : g.length = N) (hr : Rct g m) (hm : m ≤ 65536) (he : ∀ i j, i < N → j < m → gat g i j = f (i * m + j)) :
    IsL 68 (PRow 0) 0 w v g := by
  obtain ⟨a, c, h1, h2, h3, h4⟩ := h
  rw [List.length_range] at h1 h2
  refine ⟨a, c, by rw [hg]; exact h1, by omega, h3, ?_⟩
  rcases h4 with h4 | ⟨b, off, e, hb, ht', hi'⟩
  · left
    have := congrArg List.length h4
    rw [List.length_range] at this
    exact List.length_eq_zero_iff.1 (by rw [hg]; simpa using this)
  · refine .inr ⟨b, off, e, Nat.zero_le _, ht', fun k hk => ?_⟩
    have hkN : k < N := by omega
    obtain ⟨u, hu, hp⟩ := hi' k (by rw [List.length_range]; exact hkN)
    have hp2 : u = .slice (some ⟨B, k * m * 2, none⟩) m m := by rw [List.getElem_range] at hp; exact hp
    have hgk : g[k] = g.getD k [] := by simp [hk]
    have hlen := hr k hk
    refine ⟨u, hu, _, m, by rw [hp2, hgk, hlen], by rw [hgk, hlen]; exact Nat.le_refl _, by unfold maxLen; omega, .inr ⟨B, k * m * 2, rfl, Nat.zero_le _, ht, fun j hj => ?_⟩⟩
    rw [hgk, hlen] at hj
    obtain ⟨nb, ad, ln, cp, k1, k2, k3⟩ := hi (k * m + j) (by have := mul_step (m := m) hkN; omega)
    refine ⟨nb, ad, ln, cp, ?_, ?_, ?_⟩
    · rw [← k1]; congr 2; rw [Nat.add_mul]; omega
    · rw [← k2]; congr 2; rw [Nat.add_mul]; omega
    · have := he k j hkN hj
      unfold gat at this
      show IsInt w _ ((g[k]).getD j 0)
      rw [hgk, this]; exact k3
theorem FRow.psq {base : Nat} {w : World} {u : Value} {l : List Rat} (h : FRow base w u l) (hl : 0 < l.length) : PSq w u l := by
  obtain ⟨a, c, e, hc, h4⟩ := h
  rcases h4 with h4 | ⟨b, off, e2, hb, ht, hi⟩
  · rw [h4] at hl; simp at hl
  · exact ⟨b, off, c, by rw [e, e2], ht, hi⟩
theorem IsL.psqs {base : Nat} {w : World} {v : Value} {g : GridF} {m : Nat} (h : IsL 38 (FRow base) 0 w v g) (hr : RectF m g) (hm : 0 < m) : IsL 38 PSq 0 w v g := by
  obtain ⟨a, c, h1, h2, h3, h4⟩ := h
  refine ⟨a, c, h1, h2, h3, h4.imp id ?_⟩
  rintro ⟨b, off, e, hb, ht, hi⟩
  refine ⟨b, off, e, hb, ht, fun k hk => ?_⟩
  obtain ⟨u, hu, hp⟩ := hi k hk
  have : (g[k]'hk).length = m := by have := hr k hk; simpa [hk] using this
  exact ⟨u, hu, hp.psq (by rw [this]; exact hm)⟩
def MatNo (ins regs : Int) (code : List Ins) (outs : List Int) (q : Int) : Prop := (¬ ProgOk ins regs code outs ∧ q = 80) ∨ (ProgOk ins regs code outs ∧ endF ins regs code = none ∧ q = 3) ∨ (ProgOk ins regs code outs ∧ (∃ h, endF ins regs code = some h) ∧ (16 < ins ∨ 16 < outs.length) ∧ q = 5)
def MatRes (ins regs : Int) (code : List Ins) (outs : List Int) (w' : World) (v u : Value) (q : Int) : Prop :=
  (MatNo ins regs code outs q ∧ v = .agg #[.slice none 0 0] ∧ u = .agg #[.bool false, .slice none 0 0]) ∨
  (ProgOk ins regs code outs ∧ ins ≤ 16 ∧ outs.length ≤ 16 ∧ q = 0 ∧ ∃ h, endF ins regs code = some h ∧ Mt 17000000 (matG (outsF outs h)) v w' ∧ IsInt w' u (matD (outsF outs h)))
def MatPost (ins regs : Int) (code : List Ins) (outs : List Int) (w : World) (e : Ending) (w' : World) : Prop := (∃ v u q, e = .returned (.tuple #[v, u, .int .i64 q]) ∧ MatRes ins regs code outs w' v u q) ∧ Below w.heap.size w w'
theorem MatPost.no {ins regs : Int} {code : List Ins} {outs : List Int} {w w' : World} {q : Int} (h : MatNo ins regs code outs q) (hb : Below w.heap.size w w') :
    MatPost ins regs code outs w (.returned (.tuple #[.agg #[.slice none 0 0], .agg #[.bool false, .slice none 0 0], .int .i64 q])) w' := ⟨⟨_, _, _, rfl, .inl ⟨h, rfl, rfl⟩⟩, hb⟩
theorem MatPost.yes {ins regs : Int} {code : List Ins} {outs : List Int} {w w' : World} {v u : Value} {h : GridF} (h1 : ProgOk ins regs code outs) (h2 : ins ≤ 16) (h3 : outs.length ≤ 16) (h4 : endF ins regs code = some h) (h5 : Mt 17000000 (matG (outsF outs h)) v w') (h6 : IsInt w' u (matD (outsF outs h))) (hb : Below w.heap.size w w') :
    MatPost ins regs code outs w (.returned (.tuple #[v, u, .int .i64 0])) w' := ⟨⟨_, _, _, rfl, .inr ⟨h1, h2, h3, rfl, h, h4, h5, h6⟩⟩, hb⟩
theorem mat_facts {ins regs : Int} {code : List Ins} {outs : List Int} {h : GridF} (hok : ProgOk ins regs code outs) (e : endF ins regs code = some h) (h16 : ins ≤ 16) (o16 : outs.length ≤ 16) :
    RectF ins.toNat (outsF outs h) ∧ BdF 65536 (outsF outs h) ∧ (outsF outs h).length = outs.length ∧ (outsF outs h).flatten.length = outs.length * ins.toNat ∧ outs.length * ins.toNat ≤ 256 ∧ 0 < outs.length * ins.toNat := by
  obtain ⟨h1, h2⟩ := endF_ok hok e
  refine ⟨h1, slimG_bd h2, outsF_len _ _, by rw [flatF_len h1, outsF_len], ?_, ?_⟩
  · have := Nat.mul_le_mul o16 (show ins.toNat ≤ 16 by omega); omega
  · exact Nat.mul_pos hok.o1 (by have := hok.i1; omega)
theorem matG_mt {F : GridF} {m : Nat} {v : Value} {w : World} (hr : RectF m F) (hb : BdF 65536 F) (h1 : 0 < m) (h2 : m ≤ 16) (h3 : 0 < F.length) (h4 : F.length ≤ 16) (hv : IsM 0 w v (matG F)) : Mt 17000000 (matG F) v w := by
  have hc : cols (matG F) = m := (matG_rct hr).cols (by rw [matG_len]; exact h3)
  refine ⟨hv, by rw [hc]; exact matG_rct hr, by rw [hc, matG_len]; omega, (matG_bd hr hb).mono ?_⟩
  have := Nat.mul_le_mul h4 h2
  have := Nat.mul_le_mul_left 65536 this
  omega
theorem matG_fits {F : GridF} {m : Nat} (hr : RectF m F) (h1 : 0 < m) (h2 : m ≤ 16) (h3 : 0 < F.length) (h4 : F.length ≤ 16) : fitsE (matG F) = 0 := by
  have hc : cols (matG F) = m := (matG_rct hr).cols (by rw [matG_len]; exact h3)
  unfold fitsE
  rw [hc, if_neg (by rw [matG_len]; omega), if_neg (by rw [matG_len]; omega), if_pos (show ∀ i, i < (matG F).length → ((matG F).getD i []).length = m from matG_rct hr)]
end Go.Proofs.YtbmaffijncapiaaGreatDoor

/- denote, plain: what a program makes of numbers is its rows summed up with these. -/
namespace Go.Proofs.YtbmaffijncapiaaGreatDoor
open Num
theorem opQ_zero (i : Ins) : opQ i 0 0 = 0 := by
  unfold opQ
  (repeat' split) <;> (try simp [Rat.div_def, Rat.zero_mul]) <;> (try grind)
theorem opQ_add (i : Ins) (a b c d : Rat) : opQ i (a + c) (b + d) = opQ i a b + opQ i c d := by
  unfold opQ
  (repeat' split) <;> (try simp only [Rat.div_def]) <;> grind
theorem opQ_mul (i : Ins) (a b c : Rat) : opQ i (a * c) (b * c) = opQ i a b * c := by
  unfold opQ
  (repeat' split) <;> (try simp only [Rat.div_def]) <;> grind
end Go.Proofs.YtbmaffijncapiaaGreatDoor

/- denote: Is: does a program denote a matrix over a number? -/
namespace Go.Proofs.YtbmaffijncapiaaGreatDoor
open Num
open Go.ChangeShapes Go.WideShapes Go.ChangeAt Go.RowKit
attribute [local go_sem ↓] Go.wp_at_zero Go.wp_at_succ
theorem atY_c (v : Value) (g : Grid) (i j : Nat) (w : World) (hv : IsM 0 w v g) (hr : Rct g (cols g)) (hi : i < g.length) (hj : j < cols g) : Calls Tryz.prog 30 #[v, .int .i64 (i : Nat), .int .i64 (j : Nat)] w fun e w' => (∃ n a l c, e = .returned (.tuple #[.agg #[.bool n, .slice a l c], .int .i64 0]) ∧ IsInt w' (.agg #[.bool n, .slice a l c]) (gat g i j)) ∧ Below w.heap.size w w' := by
  refine (at_c v g i j w hv hr).mono ?_
  rintro e w' ⟨h1 | ⟨h, -⟩, hb⟩
  · obtain ⟨-, -, -, -, u, rfl, hu⟩ := h1
    have hu2 := hu
    obtain ⟨n, a, l, c, rfl⟩ := IsInt.lit hu2
    exact ⟨⟨n, a, l, c, rfl, hu⟩, hb⟩
  · exact absurd ⟨by omega, by omega, by omega, by omega⟩ h
def AtEq (F : GridF) (g : Grid) (d : Int) (i j : Nat) : Prop := (F.getD i []).getD j 0 = Rat.divInt (gat g i j) d
theorem qdec (x y : Rat) : cmpI (x.num * (y.den : Int)) (y.num * (x.den : Int)) = 0 ↔ x = y := by
  rw [← q_cmp]
  unfold cmpI
  constructor
  · intro h; by_cases h1 : x.num * (y.den : Int) < y.num * (x.den : Int)
    · rw [if_pos h1] at h; omega
    · rw [if_neg h1] at h; by_cases h2 : x.num * (y.den : Int) = y.num * (x.den : Int)
      · exact h2
      · rw [if_neg h2] at h; omega
  · intro h; rw [if_neg (by omega), if_pos h]
def IsRes (ins regs : Int) (code : List Ins) (outs : List Int) (g : Grid) (d : Int) (b : Bool) (q : Int) : Prop :=
  (b = false ∧ ((d = 0 ∧ q = 2) ∨ (d ≠ 0 ∧ ¬ ProgOk ins regs code outs ∧ q = 80) ∨ (d ≠ 0 ∧ ProgOk ins regs code outs ∧ endF ins regs code = none ∧ q = 3))) ∨
  (d ≠ 0 ∧ ProgOk ins regs code outs ∧ ∃ h, endF ins regs code = some h ∧ q = 0 ∧ (b = true ↔ (ins = (cols g : Nat) ∧ outs.length = g.length ∧ ∀ i j, i < g.length → j < cols g → AtEq (outsF outs h) g d i j)))
def IsPost (ins regs : Int) (code : List Ins) (outs : List Int) (g : Grid) (d : Int) (w : World) (e : Ending) (w' : World) : Prop := (∃ b q, e = .returned (.tuple #[.bool b, .int .i64 q]) ∧ IsRes ins regs code outs g d b q) ∧ Below w.heap.size w w'
set_option maxRecDepth 100000 in
set_option maxHeartbeats 16000000 in
theorem is_cQ (ins regs : Int) (ca oa : Option Addr) (cc oc : Nat) (code : List Ins) (outs : List Int) (vm vd : Value) (g : Grid) (d : Int) (K : Nat) (w : World) (hc : InsV w ca cc code) (ho : IntsV w oa oc outs) (hm : Mt K g vm w) (hd : IsInt w vd d) (bd : Bd K d) (hK : K ≤ 1000000000) :
    Calls Tryz.prog 44 #[.agg #[.int .i64 ins, .int .i64 regs, .slice ca code.length cc, .slice oa outs.length oc], vm, vd] w (IsPost ins regs code outs g d w) := by
  have HC := Lib.hid (And.intro hc ho)
  have HM := Lib.hid hm
  have HD := Lib.hid (And.intro hd bd)
  obtain ⟨ma, mc, rfl⟩ := hm.m.lit
  have SC := Lib.hid (fun V (q : Below w.heap.size w V) => sign_c vd d V (hd.keep q))
  obtain ⟨dn, da, dl, dc, rfl⟩ := hd.lit
  clear hc ho hm hd bd
  have hB := Below.refl w.heap.size w
  by_cases hd0 : d = 0
  · have HR := Lib.hid (show IsRes ins regs code outs g d false 2 from .inl ⟨rfl, .inl ⟨hd0, rfl⟩⟩)
    rw [hd0, Int.sign_zero] at SC
    clear hd0
    go_enter Tryz.func44, Tryz.ntmps44
    go_wp2_with fail
    (with_reducible refine (SC.out _ ?_).mono ?_); (repeat (first|exact bzR _ _|exact hB|refine bzD ?_|refine bzN ?_|refine bzS ?_|refine bzA ?_))
    rintro e w1 ⟨rfl, hb1⟩
    have hB1 : Below w.heap.size w w1 := bthen (by repeat (first|exact bzR _ _|exact hB|refine bzD ?_|refine bzN ?_|refine bzS ?_|refine bzA ?_)) hb1
    clear SC hb1
    go_wp2
    refine bodyPost_ret (v := .tuple #[.bool false, .int .i64 2]) (by simp [results, Tryz.results44, go_sem]) rfl ⟨⟨_, _, rfl, HR.out⟩, ?_⟩
    repeat (first|exact bzR _ _|exact hB1|refine bzD ?_|refine bzN ?_|refine bzS ?_|refine bzA ?_)
  · obtain ⟨sg, hsg, hsgE⟩ : ∃ q : Int, q ≠ 0 ∧ d.sign = q := ⟨_, (fun e => hd0 (Int.sign_eq_zero_iff_zero.1 e)), rfl⟩
    rw [hsgE] at SC
    have hsb : (sg == 0) = false := by simpa using hsg
    have HD0 := Lib.hid hd0
    clear hsgE hsg hd0
    by_cases hp : ProgOk ins regs code outs
    · cases he : endF ins regs code with
      | none =>
        have HR := Lib.hid (show IsRes ins regs code outs g d false 3 from .inl ⟨rfl, .inr (.inr ⟨HD0.out, hp, he, rfl⟩)⟩)
        have RC := Lib.hid (fun V (q : Below w.heap.size w V) => rows_wide (HC.out.1.keep q) (HC.out.2.keep q) hp he)
        clear hp he
        go_enter Tryz.func44, Tryz.ntmps44
        go_wp2_with fail
        (with_reducible refine (SC.out _ ?_).mono ?_); (repeat (first|exact bzR _ _|exact hB|refine bzD ?_|refine bzN ?_|refine bzS ?_|refine bzA ?_))
        rintro e w1 ⟨rfl, hb1⟩
        have p0 : w1.cell? ⟨w.heap.size, 0, none⟩ = some (.int .i64 ins) := bkc hb1
        have zp0 := cell_lt p0
        have p1 : w1.cell? ⟨w.heap.size, 1, none⟩ = some (.int .i64 regs) := bkc hb1
        have p2 : w1.cell? ⟨w.heap.size, 2, none⟩ = some (.slice ca code.length cc) := bkc hb1
        have p3 : w1.cell? ⟨w.heap.size, 3, none⟩ = some (.slice oa outs.length oc) := bkc hb1
        have m0 : w1.cell? ⟨w.heap.size + 1, 0, none⟩ = some (.slice ma g.length mc) := bkc hb1
        have zm0 := cell_lt m0
        have e0 : w1.cell? ⟨w.heap.size + 1 + 1, 0, none⟩ = some (.bool dn) := bkc hb1
        have ze0 := cell_lt e0
        have e1 : w1.cell? ⟨w.heap.size + 1 + 1, 1, none⟩ = some (.slice da dl dc) := bkc hb1
        have hB : Below w.heap.size w w1 := bthen (by repeat (first|exact bzR _ _|exact hB|refine bzD ?_|refine bzN ?_|refine bzS ?_|refine bzA ?_)) hb1
        have hz : w.heap.size ≤ w1.heap.size := hB.size
        clear SC
        go_wp2_with fail
        (with_reducible refine (RC.out _ ?_).mono ?_); (repeat (first|exact bzR _ _|exact hB|refine bzD ?_|refine bzN ?_|refine bzS ?_|refine bzA ?_))
        rintro e w2 ⟨rfl, hb2⟩
        have hB2 : Below w.heap.size w w2 := bthen (by repeat (first|exact bzR _ _|exact hB|refine bzD ?_|refine bzN ?_|refine bzS ?_|refine bzA ?_)) hb2
        clear RC hb2
        go_wp2
        refine bodyPost_ret (v := .tuple #[.bool false, .int .i64 3]) (by simp [results, Tryz.results44, go_sem]) rfl ⟨⟨_, _, rfl, HR.out⟩, ?_⟩
        repeat (first|exact bzR _ _|exact hB2|refine bzD ?_|refine bzN ?_|refine bzS ?_|refine bzA ?_)
      | some h =>
        have RC := Lib.hid (fun V (q : Below w.heap.size w V) => rows_yes (HC.out.1.keep q) (HC.out.2.keep q) hp he)
        have HF := Lib.hid (endF_ok hp he)
        have HFL := Lib.hid (outsF_len outs h)
        have HRR := Lib.hid (fun (b : Bool) (hb : b = true ↔ (ins = (cols g : Nat) ∧ outs.length = g.length ∧ ∀ i j, i < g.length → j < cols g → AtEq (outsF outs h) g d i j)) => (show IsRes ins regs code outs g d b 0 from .inr ⟨HD0.out, hp, h, he, rfl, hb⟩))
        obtain ⟨F, hF⟩ : ∃ F, outsF outs h = F := ⟨_, rfl⟩
        rw [hF] at RC HF HFL HRR
        obtain ⟨O, hO⟩ : ∃ O, outs.length = O := ⟨_, rfl⟩
        have HO := Lib.hid hO
        have hO1 := hp.o1
        have hO2 := hp.o2
        have hi1 := hp.i1
        have hi2 := hp.i2
        have hr1 := hp.r1
        rw [hO] at hO1 hO2 HRR
        have CC := Lib.hid (fun V (q : Below w.heap.size w V) => (HM.out.keep q).colsC rfl)
        have RW := Lib.hid (fun V => rowsM_c ma g.length mc V)
        obtain ⟨cg, hcg⟩ : ∃ x, cols g = x := ⟨_, rfl⟩
        obtain ⟨rg, hrg⟩ : ∃ x, g.length = x := ⟨_, rfl⟩
        have HCG := Lib.hid (And.intro hcg hrg)
        rw [hcg, hrg] at HRR
        rw [hrg] at RW
        rw [hcg] at CC
        rw [hrg] at CC
        clear hp he hF hcg hO hrg
        go_enter Tryz.func44, Tryz.ntmps44
        go_wp2_with fail
        (with_reducible refine (SC.out _ ?_).mono ?_); (repeat (first|exact bzR _ _|exact hB|refine bzD ?_|refine bzN ?_|refine bzS ?_|refine bzA ?_))
        rintro e w1 ⟨rfl, hb1⟩
        have p0 : w1.cell? ⟨w.heap.size, 0, none⟩ = some (.int .i64 ins) := bkc hb1
        have zp0 := cell_lt p0
        have p1 : w1.cell? ⟨w.heap.size, 1, none⟩ = some (.int .i64 regs) := bkc hb1
        have p2 : w1.cell? ⟨w.heap.size, 2, none⟩ = some (.slice ca code.length cc) := bkc hb1
        have p3 : w1.cell? ⟨w.heap.size, 3, none⟩ = some (.slice oa outs.length oc) := bkc hb1
        have m0 : w1.cell? ⟨w.heap.size + 1, 0, none⟩ = some (.slice ma g.length mc) := bkc hb1
        have zm0 := cell_lt m0
        have e0 : w1.cell? ⟨w.heap.size + 1 + 1, 0, none⟩ = some (.bool dn) := bkc hb1
        have ze0 := cell_lt e0
        have e1 : w1.cell? ⟨w.heap.size + 1 + 1, 1, none⟩ = some (.slice da dl dc) := bkc hb1
        have hB : Below w.heap.size w w1 := bthen (by repeat (first|exact bzR _ _|exact hB|refine bzD ?_|refine bzN ?_|refine bzS ?_|refine bzA ?_)) hb1
        have hz : w.heap.size ≤ w1.heap.size := hB.size
        clear SC
        go_wp2_with fail
        (with_reducible refine (RC.out _ ?_).mono ?_); (repeat (first|exact bzR _ _|exact hB|refine bzD ?_|refine bzN ?_|refine bzS ?_|refine bzA ?_))
        rintro e w2 ⟨⟨v2, rfl, hv2⟩, hb2⟩
        have p0 : w2.cell? ⟨w.heap.size, 0, none⟩ = some (.int .i64 ins) := bkc hb2
        have zp0 := cell_lt p0
        have p1 : w2.cell? ⟨w.heap.size, 1, none⟩ = some (.int .i64 regs) := bkc hb2
        have p2 : w2.cell? ⟨w.heap.size, 2, none⟩ = some (.slice ca code.length cc) := bkc hb2
        have p3 : w2.cell? ⟨w.heap.size, 3, none⟩ = some (.slice oa outs.length oc) := bkc hb2
        have m0 : w2.cell? ⟨w.heap.size + 1, 0, none⟩ = some (.slice ma g.length mc) := bkc hb2
        have zm0 := cell_lt m0
        have e0 : w2.cell? ⟨w.heap.size + 1 + 1, 0, none⟩ = some (.bool dn) := bkc hb2
        have ze0 := cell_lt e0
        have e1 : w2.cell? ⟨w.heap.size + 1 + 1, 1, none⟩ = some (.slice da dl dc) := bkc hb2
        have hB : Below w.heap.size w w2 := bthen (by repeat (first|exact bzR _ _|exact hB|refine bzD ?_|refine bzN ?_|refine bzS ?_|refine bzA ?_)) hb2
        have hz : w.heap.size ≤ w2.heap.size := hB.size
        have HV2 := Lib.hid (ownP_isL0 hv2)
        obtain ⟨a2, c2, rfl⟩ := hv2.ex
        rw [HFL.out, HO.out] at HV2 ⊢
        rw [HCG.out.2] at m0
        clear RC hv2 hb1 hb2
        have hBx := Below.refl w2.heap.size w2
        go_wp2
        refine wp_name fun w3 hW3 => ?_
        have p0 : w3.cell? ⟨w.heap.size, 0, none⟩ = some (.int .i64 ins) := by rw [hW3]; exact (by first | assumption | exact cell_new (by with_reducible first | rfl | (simp; done) | (simp; omega)) rfl | (repeat (first | assumption | exact cell_new (by with_reducible first | rfl | (simp; done) | (simp; omega)) rfl | refine cell_alloc ?_ _ | refine cell_drew ?_ | refine cell_drewN ?_ _ | refine cell_far ?_ (by simp) _ | (refine cell_far ?_ (by simp <;> omega) _))) | simp [go_sem, *])
        have zp0 := cell_lt p0
        have m0 : w3.cell? ⟨w.heap.size + 1, 0, none⟩ = some (.slice ma rg mc) := by rw [hW3]; exact (by first | assumption | exact cell_new (by with_reducible first | rfl | (simp; done) | (simp; omega)) rfl | (repeat (first | assumption | exact cell_new (by with_reducible first | rfl | (simp; done) | (simp; omega)) rfl | refine cell_alloc ?_ _ | refine cell_drew ?_ | refine cell_drewN ?_ _ | refine cell_far ?_ (by simp) _ | (refine cell_far ?_ (by simp <;> omega) _))) | simp [go_sem, *])
        have zm0 := cell_lt m0
        have e0 : w3.cell? ⟨w.heap.size + 1 + 1, 0, none⟩ = some (.bool dn) := by rw [hW3]; exact (by first | assumption | exact cell_new (by with_reducible first | rfl | (simp; done) | (simp; omega)) rfl | (repeat (first | assumption | exact cell_new (by with_reducible first | rfl | (simp; done) | (simp; omega)) rfl | refine cell_alloc ?_ _ | refine cell_drew ?_ | refine cell_drewN ?_ _ | refine cell_far ?_ (by simp) _ | (refine cell_far ?_ (by simp <;> omega) _))) | simp [go_sem, *])
        have ze0 := cell_lt e0
        have e1 : w3.cell? ⟨w.heap.size + 1 + 1, 1, none⟩ = some (.slice da dl dc) := by rw [hW3]; exact (by first | assumption | exact cell_new (by with_reducible first | rfl | (simp; done) | (simp; omega)) rfl | (repeat (first | assumption | exact cell_new (by with_reducible first | rfl | (simp; done) | (simp; omega)) rfl | refine cell_alloc ?_ _ | refine cell_drew ?_ | refine cell_drewN ?_ _ | refine cell_far ?_ (by simp) _ | (refine cell_far ?_ (by simp <;> omega) _))) | simp [go_sem, *])
        have hB : Below w.heap.size w w3 := by rw [hW3]; repeat (first|exact bzR _ _|exact hB|refine bzD ?_|refine bzN ?_|refine bzS ?_|refine bzA ?_)
        have hk3 : Below w2.heap.size w2 w3 := by rw [hW3]; repeat (first|exact bzR _ _|exact hBx|refine bzD ?_|refine bzN ?_|refine bzS ?_|refine bzA ?_)
        have hz : w.heap.size ≤ w3.heap.size := hB.size
        clear hW3
        by_cases hii : ins = (cg : Nat)
        · have d1 : (ins != ((cg : Nat) : Int)) = false := by simpa using hii
          by_cases hoo : O = rg
          · have d2 : (((O : Nat) : Int) != ((rg : Nat) : Int)) = false := by simp [hoo]
            have HRY := Lib.hid (fun (b : Bool) (hb : b = true ↔ ∀ i j, i < rg → j < cg → AtEq F g d i j) => HRR.out b (hb.trans ⟨fun h => ⟨hii, hoo, h⟩, fun h => h.2.2⟩))
            have HGL := Lib.hid (And.intro hii hoo)
            have hcg16 : cg ≤ 16 := by have h1 := HM.out.sz.2.2.2; rw [HCG.out.1] at h1; exact h1
            clear hii hoo
            refine wp_region_grow (w := w3) (by kernel_rfl) (by kernel_rfl) ?_
            have p0g : ∀ gs, (grow w3 gs).cell? ⟨w.heap.size, 0, none⟩ = some (.int .i64 ins) := fun gs => bkeep gs.below p0
            have m0g : ∀ gs, (grow w3 gs).cell? ⟨w.heap.size + 1, 0, none⟩ = some (.slice ma rg mc) := fun gs => bkeep gs.below m0
            have e0g : ∀ gs, (grow w3 gs).cell? ⟨w.heap.size + 1 + 1, 0, none⟩ = some (.bool dn) := fun gs => bkeep gs.below e0
            have e1g : ∀ gs, (grow w3 gs).cell? ⟨w.heap.size + 1 + 1, 1, none⟩ = some (.slice da dl dc) := fun gs => bkeep gs.below e1
            repeat (go_big_quiet_step ((first | (go_at_call 27; with_reducible exact grow_of (CC.out _ (bthen hB (Grows.below _)))) | (go_at_call 24; with_reducible exact grow_of (RW.out _)) | fail)))
            refine wpQuiet_nil ?_
            intro w4 hb4
            clear p0g
            clear m0g
            clear e0g
            clear e1g
            have p0 : w4.cell? ⟨w.heap.size, 0, none⟩ = some (.int .i64 ins) := bkc hb4
            have zp0 := cell_lt p0
            have m0 : w4.cell? ⟨w.heap.size + 1, 0, none⟩ = some (.slice ma rg mc) := bkc hb4
            have zm0 := cell_lt m0
            have e0 : w4.cell? ⟨w.heap.size + 1 + 1, 0, none⟩ = some (.bool dn) := bkc hb4
            have ze0 := cell_lt e0
            have e1 : w4.cell? ⟨w.heap.size + 1 + 1, 1, none⟩ = some (.slice da dl dc) := bkc hb4
            have hB : Below w.heap.size w w4 := bthen (by repeat (first|exact bzR _ _|exact hB|refine bzD ?_|refine bzN ?_|refine bzS ?_|refine bzA ?_)) hb4
            have hz : w.heap.size ≤ w4.heap.size := hB.size
            have h24 : Below w2.heap.size w2 w4 := bthen hk3 hb4
            have HV4 := Lib.hid (HV2.out.keep (prs_frow 0) h24)
            have HB4 := Lib.hid hB
            have HS := Lib.hid (show ∀ V, Below w4.heap.size w4 V → V.cell? ⟨w.heap.size + 1, 0, none⟩ = some (.slice ma rg mc) ∧ V.cell? ⟨w.heap.size + 1 + 1, 0, none⟩ = some (.bool dn) ∧ V.cell? ⟨w.heap.size + 1 + 1, 1, none⟩ = some (.slice da dl dc) from fun V q => ⟨bkeep q m0, bkeep q e0, bkeep q e1⟩)
            have hB4 := Below.refl w4.heap.size w4
            clear d1 d2 hb4 hk3 h24 HV2 hBx CC RW hB
            go_wp2
            go_loopw [43] (fun x wr => ∃ i : Nat, i ≤ O ∧ x = .int .i64 i ∧ Below w4.heap.size w4 wr ∧ Hid (∀ s t, s < i → t < cg → AtEq F g d s t)) (fun x _ => O - (intOf x).toNat)
            case atStart => exact ⟨0, Nat.zero_le _, rfl, hB4, Lib.hid (fun s t h => absurd h (by omega))⟩
            case round =>
              obtain ⟨i, hi, rfl, hBr, hE⟩ := hrel
              by_cases hlt : i < O
              · have hltI : (i : Int) < (O : Int) := by omega
                have hiF : i < F.length := by rw [HFL.out, HO.out]; exact hlt
                obtain ⟨a', c', e', -, hv⟩ := (HV4.out.keep (prs_frow 0) hBr).view
                obtain ⟨rfl, -, rfl⟩ := Value.slice.inj e'
                obtain ⟨gb, go, u, rfl, hu, hrow⟩ := hv i hiF
                have hgi : F[i] = F.getD i [] := by simp [hiF]
                rw [hgi] at hrow
                have hrl : (F.getD i []).length = cg := by rw [HF.out.1 i hiF]; have := HGL.out.1; omega
                have HRL := Lib.hid hrl
                have HROW := Lib.hid hrow
                obtain ⟨ra, rc, rfl⟩ := FrRow.ex hrow
                rw [hrl] at HROW hu
                have zu := cell_lt hu
                clear hv hgi hrow hrl e'
                go_wp2
                go_loopw [50] (fun x wq => ∃ j : Nat, j ≤ cg ∧ x = .int .i64 j ∧ Below wr.heap.size wr wq ∧ Hid (∀ t, t < j → AtEq F g d i t)) (fun x _ => cg - (intOf x).toNat)
                case atStart => exact ⟨0, Nat.zero_le _, rfl, Below.refl _ _, Lib.hid (fun t h => absurd h (by omega))⟩
                case round =>
                  rename World => wq
                  obtain ⟨j, hj, rfl, hBq, hE2⟩ := hrel
                  by_cases hlt2 : j < cg
                  · have hltJ : (j : Int) < (cg : Int) := by omega
                    have hrq := HROW.out.keep hBq
                    obtain ⟨b, off, rfl, -, g1, y1, s1, t1, g2, y2, s2, t2, q0, q1, q2, q3, qI⟩ := FrRow.at hrq hlt2
                    have HQ := Lib.hid qI
                    have zb := cell_lt q0
                    clear qI
                    go_upto_region 14 with (fail)
                    refine wp_name fun w5 hW5 => ?_
                    have hBz := Below.refl wq.heap.size wq
                    have h5 : Below wq.heap.size wq w5 := by rw [hW5]; repeat (first|exact bzR _ _|exact hBz|refine bzD ?_|refine bzN ?_|refine bzS ?_|refine bzA ?_)
                    have X0 : w5.cell? ⟨wq.heap.size, 0, none⟩ = some (.bool g1) ∧ w5.cell? ⟨wq.heap.size, 1, none⟩ = some (.slice y1 s1 t1) ∧ w5.cell? ⟨wq.heap.size, 2, none⟩ = some (.bool g2) ∧ w5.cell? ⟨wq.heap.size, 3, none⟩ = some (.slice y2 s2 t2) := by rw [hW5]; simp [go_sem]
                    obtain ⟨x0, x1, x2, x3⟩ := X0
                    have zx := cell_lt x0
                    have HQ5 := Lib.hid (HQ.out.keep h5)
                    have h45 : Below w4.heap.size w4 w5 := bthen hBr (bthen hBq h5)
                    have hBw5 : Below w.heap.size w w5 := bthen HB4.out h45
                    have HX := Lib.hid (show ∀ V, Below w5.heap.size w5 V → V.cell? ⟨wq.heap.size, 0, none⟩ = some (.bool g1) ∧ V.cell? ⟨wq.heap.size, 1, none⟩ = some (.slice y1 s1 t1) ∧ V.cell? ⟨wq.heap.size, 2, none⟩ = some (.bool g2) ∧ V.cell? ⟨wq.heap.size, 3, none⟩ = some (.slice y2 s2 t2) from fun V q => ⟨bkeep q x0, bkeep q x1, bkeep q x2, bkeep q x3⟩)
                    obtain ⟨m0, e0, e1⟩ := HS.out w5 h45
                    have zm := cell_lt m0
                    have AT := Lib.hid (fun V (q : Below w5.heap.size w5 V) => atY_c _ g i j V ((HM.out.keep (bthen hBw5 q)).m) HM.out.rc (by rw [HCG.out.2, ← HGL.out.2]; exact hlt) (by rw [HCG.out.1]; exact hlt2))
                    rw [HCG.out.2] at AT
                    have hB5 := Below.refl w5.heap.size w5
                    have HBQ5 := Lib.hid (bthen hBq h5)
                    clear hW5 h5 hBq q0 q1 q2 q3 x0 x1 x2 x3
                    go_wp2_with fail
                    (with_reducible refine (AT.out _ ?_).mono ?_); (repeat (first|exact bzR _ _|exact hB5|refine bzD ?_|refine bzN ?_|refine bzS ?_|refine bzA ?_))
                    rintro e w6 ⟨⟨n5, a5, l5, c5, rfl, hu5⟩, hb6⟩
                    have h56 : Below w5.heap.size w5 w6 := bthen (by repeat (first|exact bzR _ _|exact hB5|refine bzD ?_|refine bzN ?_|refine bzS ?_|refine bzA ?_)) hb6
                    obtain ⟨m0, e0, e1⟩ := HS.out w6 (bthen h45 h56)
                    have ze := cell_lt e0
                    have HU5 := Lib.hid hu5
                    have MK := Lib.hid (fun V (q : Below w6.heap.size w6 V) => pqMake_c _ _ (gat g i j) d K V (hu5.keep q) (HD.out.1.keep (bthen hBw5 (bthen h56 q))) (HM.out.bd i j) HD.out.2 (by omega) HD0.out)
                    have hB6 := Below.refl w6.heap.size w6
                    clear AT hb6 hu5 zm
                    go_wp2_with fail
                    (with_reducible refine (MK.out _ ?_).mono ?_); (repeat (first|exact bzR _ _|exact hB6|refine bzD ?_|refine bzN ?_|refine bzS ?_|refine bzA ?_))
                    rintro e w7 ⟨⟨v7, rfl, hv7⟩, hb7⟩
                    have h67 : Below w6.heap.size w6 w7 := bthen (by repeat (first|exact bzR _ _|exact hB6|refine bzD ?_|refine bzN ?_|refine bzS ?_|refine bzA ?_)) hb7
                    have h57 := bthen h56 h67
                    obtain ⟨x0, x1, x2, x3⟩ := HX.out w7 h57
                    have zx := cell_lt x0
                    have CM := Lib.hid (fun V (q : Below w7.heap.size w7 V) => pqCmp_c _ _ ((F.getD i []).getD j 0) (Rat.divInt (gat g i j) d) 65536 K V (HQ5.out.keep (bthen h57 q)) (hv7.keep q) (HF.out.2 i hiF j (by rw [HRL.out]; exact hlt2)) (dq_bd HD0.out (HM.out.bd i j) HD.out.2) (by omega))
                    obtain ⟨m1, b1, p1', k1, m2, b2, p2', k2, rfl, -, -⟩ := hv7
                    have hB7 := Below.refl w7.heap.size w7
                    have hDQ := qdec ((F.getD i []).getD j 0) (Rat.divInt (gat g i j) d)
                    obtain ⟨z, hz⟩ : ∃ z, cmpI (((F.getD i []).getD j 0).num * ((Rat.divInt (gat g i j) d).den : Int)) ((Rat.divInt (gat g i j) d).num * (((F.getD i []).getD j 0).den : Int)) = z := ⟨_, rfl⟩
                    rw [hz] at CM hDQ
                    clear MK hb7 m0 e0 e1 hz ze
                    go_wp2_with fail
                    (with_reducible refine (CM.out _ ?_).mono ?_); (repeat (first|exact bzR _ _|exact hB7|refine bzD ?_|refine bzN ?_|refine bzS ?_|refine bzA ?_))
                    rintro e w8 ⟨rfl, hb8⟩
                    have h78 : Below w7.heap.size w7 w8 := bthen (by repeat (first|exact bzR _ _|exact hB7|refine bzD ?_|refine bzN ?_|refine bzS ?_|refine bzA ?_)) hb8
                    have hB58 := bthen h57 h78
                    clear CM hb8 x0 x1 x2 x3 zx
                    by_cases hq : AtEq F g d i j
                    · have hz0 : z = 0 := hDQ.2 hq
                      subst hz0
                      have HNX := Lib.hid (show ∀ t, t < j + 1 → AtEq F g d i t from fun t ht => by
                        by_cases e : t = j
                        · rw [e]; exact hq
                        · exact hE2.out t (by omega))
                      clear hDQ hq
                      go_wp2
                      exact ⟨⟨j + 1, hlt2, by go_num, bthen HBQ5.out hB58, HNX⟩, meas hlt2 (by go_num) rfl⟩
                    · have hzn : (z != 0) = true := by simpa using fun e => hq (hDQ.1 e)
                      have HR := Lib.hid (HRY.out false ⟨fun h => (by cases h), fun h => absurd (h i j (by rw [← HGL.out.2]; exact hlt) hlt2) hq⟩)
                      have hBe := bthen hBw5 hB58
                      clear hDQ hq
                      go_wp2
                      refine bodyPost_ret (v := .tuple #[.bool false, .int .i64 0]) (by simp [results, Tryz.results44, go_sem]) rfl ⟨⟨_, _, rfl, HR.out⟩, hBe⟩
                  · obtain rfl : j = cg := by omega
                    have hltJ : ¬ (j : Int) < (j : Int) := by omega
                    have HNX := Lib.hid (show ∀ s t, s < i + 1 → t < j → AtEq F g d s t from fun s t hs ht => by
                      by_cases e : s = i
                      · rw [e]; exact hE2.out t ht
                      · exact hE.out s t (by omega) ht)
                    have hBn := bthen hBr hBq
                    go_wp2
                    exact ⟨⟨i + 1, hlt, by go_num, hBn, HNX⟩, meas hlt (by go_num) rfl⟩
              · obtain rfl : i = O := by omega
                have hltI : ¬ (i : Int) < (i : Int) := by omega
                have HR := Lib.hid (HRY.out true ⟨fun _ s t hs ht => hE.out s t (by rw [HGL.out.2]; exact hs) ht, fun _ => rfl⟩)
                have hBe := bthen HB4.out hBr
                go_wp2
                refine bodyPost_ret (v := .tuple #[.bool true, .int .i64 0]) (by simp [results, Tryz.results44, go_sem]) rfl ⟨⟨_, _, rfl, HR.out⟩, hBe⟩
          · have d2 : (((O : Nat) : Int) != ((rg : Nat) : Int)) = true := by simp; omega
            have HR := Lib.hid (HRR.out false ⟨fun h => (by cases h), fun h => absurd h.2.1 hoo⟩)
            clear hii
            refine wp_region_grow (w := w3) (by kernel_rfl) (by kernel_rfl) ?_
            have p0g : ∀ gs, (grow w3 gs).cell? ⟨w.heap.size, 0, none⟩ = some (.int .i64 ins) := fun gs => bkeep gs.below p0
            have m0g : ∀ gs, (grow w3 gs).cell? ⟨w.heap.size + 1, 0, none⟩ = some (.slice ma rg mc) := fun gs => bkeep gs.below m0
            have e0g : ∀ gs, (grow w3 gs).cell? ⟨w.heap.size + 1 + 1, 0, none⟩ = some (.bool dn) := fun gs => bkeep gs.below e0
            have e1g : ∀ gs, (grow w3 gs).cell? ⟨w.heap.size + 1 + 1, 1, none⟩ = some (.slice da dl dc) := fun gs => bkeep gs.below e1
            repeat (go_big_quiet_step ((first | (go_at_call 27; with_reducible exact grow_of (CC.out _ (bthen hB (Grows.below _)))) | (go_at_call 24; with_reducible exact grow_of (RW.out _)) | fail)))
            refine wpQuiet_nil ?_
            intro w4 hb4
            clear p0g
            clear m0g
            clear e0g
            clear e1g
            have p0 : w4.cell? ⟨w.heap.size, 0, none⟩ = some (.int .i64 ins) := bkc hb4
            have zp0 := cell_lt p0
            have m0 : w4.cell? ⟨w.heap.size + 1, 0, none⟩ = some (.slice ma rg mc) := bkc hb4
            have zm0 := cell_lt m0
            have e0 : w4.cell? ⟨w.heap.size + 1 + 1, 0, none⟩ = some (.bool dn) := bkc hb4
            have ze0 := cell_lt e0
            have e1 : w4.cell? ⟨w.heap.size + 1 + 1, 1, none⟩ = some (.slice da dl dc) := bkc hb4
            have hB : Below w.heap.size w w4 := bthen (by repeat (first|exact bzR _ _|exact hB|refine bzD ?_|refine bzN ?_|refine bzS ?_|refine bzA ?_)) hb4
            have hz : w.heap.size ≤ w4.heap.size := hB.size
            go_wp2
            refine bodyPost_ret (v := .tuple #[.bool false, .int .i64 0]) (by simp [results, Tryz.results44, go_sem]) rfl ⟨⟨_, _, rfl, HR.out⟩, ?_⟩
            repeat (first|exact bzR _ _|exact hB|refine bzD ?_|refine bzN ?_|refine bzS ?_|refine bzA ?_)
        · have d1 : (ins != ((cg : Nat) : Int)) = true := by simpa using hii
          have HR := Lib.hid (HRR.out false ⟨fun h => (by cases h), fun h => absurd h.1 hii⟩)
          clear hii
          refine wp_region_grow (w := w3) (by kernel_rfl) (by kernel_rfl) ?_
          have p0g : ∀ gs, (grow w3 gs).cell? ⟨w.heap.size, 0, none⟩ = some (.int .i64 ins) := fun gs => bkeep gs.below p0
          have m0g : ∀ gs, (grow w3 gs).cell? ⟨w.heap.size + 1, 0, none⟩ = some (.slice ma rg mc) := fun gs => bkeep gs.below m0
          have e0g : ∀ gs, (grow w3 gs).cell? ⟨w.heap.size + 1 + 1, 0, none⟩ = some (.bool dn) := fun gs => bkeep gs.below e0
          have e1g : ∀ gs, (grow w3 gs).cell? ⟨w.heap.size + 1 + 1, 1, none⟩ = some (.slice da dl dc) := fun gs => bkeep gs.below e1
          repeat (go_big_quiet_step ((first | (go_at_call 27; with_reducible exact grow_of (CC.out _ (bthen hB (Grows.below _)))) | (go_at_call 24; with_reducible exact grow_of (RW.out _)) | fail)))
          refine wpQuiet_nil ?_
          intro w4 hb4
          clear p0g
          clear m0g
          clear e0g
          clear e1g
          have p0 : w4.cell? ⟨w.heap.size, 0, none⟩ = some (.int .i64 ins) := bkc hb4
          have zp0 := cell_lt p0
          have m0 : w4.cell? ⟨w.heap.size + 1, 0, none⟩ = some (.slice ma rg mc) := bkc hb4
          have zm0 := cell_lt m0
          have e0 : w4.cell? ⟨w.heap.size + 1 + 1, 0, none⟩ = some (.bool dn) := bkc hb4
          have ze0 := cell_lt e0
          have e1 : w4.cell? ⟨w.heap.size + 1 + 1, 1, none⟩ = some (.slice da dl dc) := bkc hb4
          have hB : Below w.heap.size w w4 := bthen (by repeat (first|exact bzR _ _|exact hB|refine bzD ?_|refine bzN ?_|refine bzS ?_|refine bzA ?_)) hb4
          have hz : w.heap.size ≤ w4.heap.size := hB.size
          go_wp2
          refine bodyPost_ret (v := .tuple #[.bool false, .int .i64 0]) (by simp [results, Tryz.results44, go_sem]) rfl ⟨⟨_, _, rfl, HR.out⟩, ?_⟩
          repeat (first|exact bzR _ _|exact hB|refine bzD ?_|refine bzN ?_|refine bzS ?_|refine bzA ?_)
    · have HR := Lib.hid (show IsRes ins regs code outs g d false 80 from .inl ⟨rfl, .inr (.inl ⟨HD0.out, hp, rfl⟩)⟩)
      have RC := Lib.hid (fun V (q : Below w.heap.size w V) => rows_no (HC.out.1.keep q) (HC.out.2.keep q) hp)
      clear hp
      go_enter Tryz.func44, Tryz.ntmps44
      go_wp2_with fail
      (with_reducible refine (SC.out _ ?_).mono ?_); (repeat (first|exact bzR _ _|exact hB|refine bzD ?_|refine bzN ?_|refine bzS ?_|refine bzA ?_))
      rintro e w1 ⟨rfl, hb1⟩
      have p0 : w1.cell? ⟨w.heap.size, 0, none⟩ = some (.int .i64 ins) := bkc hb1
      have zp0 := cell_lt p0
      have p1 : w1.cell? ⟨w.heap.size, 1, none⟩ = some (.int .i64 regs) := bkc hb1
      have p2 : w1.cell? ⟨w.heap.size, 2, none⟩ = some (.slice ca code.length cc) := bkc hb1
      have p3 : w1.cell? ⟨w.heap.size, 3, none⟩ = some (.slice oa outs.length oc) := bkc hb1
      have m0 : w1.cell? ⟨w.heap.size + 1, 0, none⟩ = some (.slice ma g.length mc) := bkc hb1
      have zm0 := cell_lt m0
      have e0 : w1.cell? ⟨w.heap.size + 1 + 1, 0, none⟩ = some (.bool dn) := bkc hb1
      have ze0 := cell_lt e0
      have e1 : w1.cell? ⟨w.heap.size + 1 + 1, 1, none⟩ = some (.slice da dl dc) := bkc hb1
      have hB : Below w.heap.size w w1 := bthen (by repeat (first|exact bzR _ _|exact hB|refine bzD ?_|refine bzN ?_|refine bzS ?_|refine bzA ?_)) hb1
      have hz : w.heap.size ≤ w1.heap.size := hB.size
      clear SC
      go_wp2_with fail
      (with_reducible refine (RC.out _ ?_).mono ?_); (repeat (first|exact bzR _ _|exact hB|refine bzD ?_|refine bzN ?_|refine bzS ?_|refine bzA ?_))
      rintro e w2 ⟨rfl, hb2⟩
      have hB2 : Below w.heap.size w w2 := bthen (by repeat (first|exact bzR _ _|exact hB|refine bzD ?_|refine bzN ?_|refine bzS ?_|refine bzA ?_)) hb2
      clear RC hb2
      go_wp2
      refine bodyPost_ret (v := .tuple #[.bool false, .int .i64 80]) (by simp [results, Tryz.results44, go_sem]) rfl ⟨⟨_, _, rfl, HR.out⟩, ?_⟩
      repeat (first|exact bzR _ _|exact hB2|refine bzD ?_|refine bzN ?_|refine bzS ?_|refine bzA ?_)
end Go.Proofs.YtbmaffijncapiaaGreatDoor

/- denote, plain: what is over one number is what it was; the last row that is told of a register. -/
namespace Go.Proofs.YtbmaffijncapiaaGreatDoor
open Num
theorem comStep_dvd (d : Int) (x : Rat) : d ∣ comStep d x := ⟨_, rfl⟩
theorem comStep_den (d : Int) (x : Rat) : (x.den : Int) ∣ comStep d x := by
  have hd := den_pos x
  have hg : gcdI d (x.den : Int) ≠ 0 := Int.ne_of_gt (gcdI_pos (by omega))
  obtain ⟨u, hu⟩ := gcdI_dvd d (x.den : Int)
  have hgl : gcdI d (x.den : Int) ∣ d := by unfold gcdI; exact Int.ofNat_dvd_left.2 (Nat.gcd_dvd_left _ _)
  obtain ⟨t, ht⟩ := hgl
  unfold comStep
  have e1 : (x.den : Int) / gcdI d (x.den : Int) = u := by
    conv => lhs; arg 1; rw [hu]
    exact Int.mul_ediv_cancel_left _ hg
  rw [e1]
  exact ⟨t, by
    conv => lhs; arg 1; rw [ht]
    conv => rhs; arg 1; rw [hu]
    rw [Int.mul_assoc, Int.mul_assoc, Int.mul_comm t u]⟩
theorem comD_dvd {L : List Rat} : ∀ n, n ≤ L.length → ∀ j, j < n → ((L.getD j 0).den : Int) ∣ comD (L.take n) := by
  intro n
  induction n with
  | zero => intro _ j hj; omega
  | succ n ih =>
    intro h j hj
    rw [comD_snoc (by omega)]
    by_cases e : j = n
    · subst e; exact comStep_den _ _
    · exact Int.dvd_trans (ih (by omega) j (by omega)) (comStep_dvd _ _)
theorem divInt_back {q : Rat} {D : Int} (hD : 0 < D) (h : (q.den : Int) ∣ D) : Rat.divInt (q.num * (D / (q.den : Int))) D = q := by
  obtain ⟨t, ht⟩ := h
  have hd := den_pos q
  have ht0 : t ≠ 0 := fun e => by rw [e, Int.mul_zero] at ht; omega
  have e1 : D / (q.den : Int) = t := by rw [ht]; exact Int.mul_ediv_cancel_left _ (by omega)
  rw [e1]
  conv => lhs; arg 2; rw [ht]
  rw [Rat.divInt_mul_right ht0]; exact q_self q
theorem matD_pos {F : GridF} {m k : Nat} (hr : RectF m F) (hb : BdF k F) : 0 < matD F := by
  have h := (comD_bd (flatF_bd hr hb) F.flatten.length (Nat.le_refl _)).1
  rw [List.take_length] at h; exact h
theorem matD_bd {F : GridF} {m k : Nat} (hr : RectF m F) (hb : BdF k F) : Bd (k * (F.length * m) + 1) (matD F) := by
  have h := (comD_bd (flatF_bd hr hb) F.flatten.length (Nat.le_refl _)).2
  rw [List.take_length, flatF_len hr] at h; exact h
theorem is_self {F : GridF} {m k : Nat} (hr : RectF m F) (hb : BdF k F) {i j : Nat} (hi : i < F.length) (hj : j < m) : AtEq F (matG F) (matD F) i j := by
  unfold AtEq
  rw [matG_at hr hi hj]
  refine (divInt_back (matD_pos hr hb) ?_).symm
  have h := comD_dvd (L := F.flatten) F.flatten.length (Nat.le_refl _) (i * m + j) (by
    rw [flatF_len hr]
    have := Nat.mul_le_mul_right m (show i + 1 ≤ F.length from hi)
    rw [Nat.add_mul, Nat.one_mul] at this
    omega)
  rw [List.take_length, flatF_get hr hi hj] at h
  exact h
end Go.Proofs.YtbmaffijncapiaaGreatDoor

