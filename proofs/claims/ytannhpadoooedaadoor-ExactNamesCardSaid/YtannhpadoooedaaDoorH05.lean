/- Texts of this seat, laid together: EwC, RwA, RwB. Each opens with its own remark, which says what it proves, and under which conditions. -/
import Derived.Test.YtannhpadoooedaaDoorH01
import Derived.Test.YtannhpadoooedaaDoorH04
import Derived.Test.YtannhpadoooedaaDoorG31
import Derived.Test.YtannhpadoooedaaDoorG12
import Derived.Test.YtannhpadoooedaaDoorG33
import Derived.Test.YtannhpadoooedaaDoorG32
import Derived.Test.YtannhpadoooedaaDoorG27
import Derived.Deep.DrawnRows
set_option linter.unusedVariables false
set_option linter.unusedSimpArgs false
/- exact's laws: row.Of, row.Text at one number; live. -/
namespace Go.Proofs.YtannhpadoooedaaDoor
open Num
open Go.ChangeShapes Go.WideShapes Go.ChangeAt Go.RowKit
set_option linter.unusedVariables false
set_option linter.unusedSimpArgs false
attribute [local go_sem ↓] Go.wp_at_zero Go.wp_at_succ
set_option maxRecDepth 100000 in
set_option maxHeartbeats 8000000 in
theorem rowOf_c (v : Value) (l : List Int) (w : World) (hr : RowI w v l) (hl : l.length ≤ 400) :
    Calls Tryd.prog 49 #[v] w fun e w' => ∃ va, e = .returned va ∧ RowO IsInt 34 w.heap.size w' va l ∧ Below w.heap.size w w' := by
  obtain ⟨ra, rc, rfl, hr⟩ := hr
  have HR := Lib.hid hr
  clear hr
  have hB := Below.refl w.heap.size w
  go_enter Tryd.func49, Tryd.ntmps49
  go_wp2
  go_loopw [3, 8] (fun va x wr => ∃ j : Nat, j ≤ l.length ∧ x = .int .i64 j ∧ Hid (OwnF IsInt 34 w wr va j (fun i => l.getD i 0))) (fun _ x _ => l.length - (intOf x).toNat)
  case atStart => exact ⟨0, Nat.zero_le _, rfl, Lib.hid (OwnF.nil _ _ _ hB)⟩
  case round =>
    obtain ⟨j, hj, rfl, hF⟩ := hrel
    have hBr := hF.out.bel
    obtain ⟨fa, fc, hfv⟩ : ∃ a c, _ = Value.slice a j c := by obtain ⟨a, c, h, _⟩ := hF.out.view; exact ⟨a, c, h⟩
    subst hfv
    by_cases hlt : j < l.length
    · have hltI : (j : Int) < (l.length : Int) := by omega
      obtain ⟨rb, ro, rfl, hc, hI⟩ := HR.out j hlt
      have hc2 := bkeep hBr hc
      have zrb := cell_lt hc2
      have oc := fun W => of_c (l.getD j 0) W hI.1 hI.2
      have HSN := Lib.hid (snoc_fun l j hlt)
      obtain ⟨z, hz⟩ : ∃ z, l.getD j 0 = z := ⟨_, rfl⟩
      rw [hz] at hc2 oc HSN
      clear hc hI hz
      go_wp2_with fail
      refine (oc _).mono ?_
      rintro e w5 ⟨⟨v5, rfl, hi5⟩, hb5⟩
      have HF5 := Lib.hid (hF.out.below lims_int hb5)
      have HI5 := Lib.hid hi5
      obtain ⟨n5, a5, c5, l5, rfl, -⟩ := hi5
      unfold iv at *
      clear oc hc2
      go_wp2_with (at_builtin; refine app_num elInt (by decide) lims_int (by rfl) (by rfl) HF5.out HI5.out (by rfl) (by rfl) (by omega) ?_)
      intro v8 w8 hF8 _ _
      have HF8 := Lib.hid (hF8.congr' HSN.out)
      clear hF8
      go_wp2
      exact ⟨⟨j + 1, by omega, by go_num, HF8⟩, by simp [intOf]; omega⟩
    · obtain rfl : j = l.length := by omega
      go_wp2
      go_ret
      exact ⟨_, rfl, hF.out.rowO, hBr⟩
set_option maxRecDepth 100000 in
set_option maxHeartbeats 2000000 in
theorem join1_c (b c : Nat) (s sep : ByteArray) (w : World) (hc : w.cell? ⟨b, 0, none⟩ = some (.string s)) :
    Calls Tryd.prog 83 #[.slice (some ⟨b, 0, none⟩) 1 c, .string sep] w fun e w' => e = .returned (.string s) ∧ Below w.heap.size w w' := by
  have hB := Below.refl w.heap.size w
  go_enter Tryd.func83, Tryd.ntmps83
  go_wp2
  go_ret
  exact ⟨rfl, by repeat (first | exact Below.refl _ _ | exact hB | refine Below.drew ?_ | refine below_drewN ?_ _ | refine bset ?_ (by simp <;> omega) _ | refine bal ?_ _)⟩
/-- strings as values -/
def IsStr (w : World) (v : Value) (s : ByteArray) : Prop := v = .string s
theorem prs_str : Prs (fun _ => False) IsStr := ⟨fun h => by cases h; rfl, fun h _ => h⟩
theorem infoStr : (Tryd.prog.info? 9).map (fun i => (i.zero, i.size, i.bytes)) = some (some (.string ⟨#[]⟩), 1, 16) := by kernel_rfl
theorem elStr : Elt Tryd.prog 137 9 1 16 := Elt.mk' Tryd.underlying137 infoStr rfl (by decide) (by decide)
set_option maxRecDepth 100000 in
set_option maxHeartbeats 8000000 in
theorem rowText1_c (v : Value) (x : Int) (k : Nat) (w : World) (hv : PRow 0 w v [x]) (bx : Bd k x) (hk : k ≤ 2147483648) (hs : (intTxt x).length ≤ 1000) :
    Calls Tryd.prog 50 #[v] w fun e w' => e = .returned (.string (⟨#[91]⟩ ++ ⟨(intTxt x).toArray⟩ ++ ⟨#[93]⟩)) ∧ Below w.heap.size w w' := by
  have HV := Lib.hid hv
  have HBX := Lib.hid bx
  obtain ⟨va, vc, rfl, -⟩ := hv
  clear bx
  have hl1 : [x].length = 1 := rfl
  rw [hl1] at HV ⊢
  clear hl1
  have hB := Below.refl w.heap.size w
  go_enter Tryd.func50, Tryd.ntmps50
  go_wp2
  go_loopw [3, 8] (fun l i wr => (l = .slice none 0 0 ∧ i = .int .i64 0 ∧ Below w.heap.size w wr) ∨ (∃ b c, l = .slice (some ⟨b, 0, none⟩) 1 c ∧ i = .int .i64 1 ∧ wr.cell? ⟨b, 0, none⟩ = some (.string ⟨(intTxt x).toArray⟩) ∧ Below w.heap.size w wr)) (fun _ i _ => 1 - (intOf i).toNat)
  case atStart => exact .inl ⟨rfl, rfl, hB⟩
  case round =>
    rcases hrel with ⟨rfl, rfl, hBr⟩ | ⟨b, c, rfl, rfl, hc, hBr⟩
    · obtain ⟨a', c', he, -, vr⟩ := (HV.out.keep lims_int hBr).view
      obtain ⟨rfl, -, rfl⟩ := Value.slice.inj he
      obtain ⟨b, off, nx, ax, lx, cx, rfl, c0, c1, hi⟩ := vr 0 (by simp)
      rw [Nat.zero_mul, Nat.add_zero] at c0 c1
      have tc := fun W (h : Below wr.heap.size wr W) => intText_c (.agg #[.bool nx, .slice ax lx cx]) x k W (hi.keep h) HBX.out hk
      have hBw := Below.refl wr.heap.size wr
      clear hi vr he
      go_wp2_with fail
      refine (tc _ (by repeat (first | exact Below.refl _ _ | exact hBw | refine Below.drew ?_ | refine below_drewN ?_ _ | refine bset ?_ (by simp <;> omega) _ | refine bal ?_ _))).mono ?_
      rintro e w5 ⟨rfl, hb5⟩
      have hB5 : Below wr.heap.size wr w5 := bthen (by repeat (first | exact Below.refl _ _ | exact hBw | refine Below.drew ?_ | refine below_drewN ?_ _ | refine bset ?_ (by simp <;> omega) _ | refine bal ?_ _)) hb5
      clear tc c0 c1
      have hBB := bthen hBr hB5
      go_wp2
      exact ⟨.inr ⟨_, _, rfl, by go_num, cell_drew (cell_new (by simp) (by rw [Array.getElem?_append_left (by simp)]; rfl)), by repeat (first | exact Below.refl _ _ | exact hBB | refine Below.drew ?_ | refine below_drewN ?_ _ | refine bset ?_ (by simp <;> omega) _ | refine bal ?_ _)⟩, by simp [intOf]⟩
    · have jc := fun W (h : Below wr.heap.size wr W) => join1_c b c ⟨(intTxt x).toArray⟩ ⟨#[32]⟩ W (bkeep h hc)
      have hBw := Below.refl wr.heap.size wr
      go_wp2_with fail
      refine (jc _ (by repeat (first | exact Below.refl _ _ | exact hBw | refine Below.drew ?_ | refine below_drewN ?_ _ | refine bset ?_ (by simp <;> omega) _ | refine bal ?_ _))).mono ?_
      rintro e w5 ⟨rfl, hb5⟩
      have hB5 : Below w.heap.size w w5 := bthen hBr (bthen (by repeat (first | exact Below.refl _ _ | exact hBw | refine Below.drew ?_ | refine below_drewN ?_ _ | refine bset ?_ (by simp <;> omega) _ | refine bal ?_ _)) hb5)
      have hn1 : ¬ 9223372036854775807 < 1 + (intTxt x).length := by omega
      have hn2 : ¬ 9223372036854775807 < 1 + (intTxt x).length + 1 := by omega
      go_wp2
      go_ret
      exact ⟨rfl, hB5⟩
/-- the world of a call is named -/
theorem wp_nameC {P : Program} {f : FuncId} {a : Array Value} {w : World} {Q : Ending → World → Prop} (h : ∀ W, W = w → Calls P f a W Q) : Calls P f a w Q := h w rfl
/-- the program of live -/
def liCode : List Ins := [⟨4, 0, 0, 1, 0⟩, ⟨6, 0, 0, 0, 2⟩]
def liOuts : List Int := [0]
theorem liOk : ProgOk 2 2 liCode liOuts := by
  refine ⟨by decide, by decide, by decide, by decide, by decide, by decide, fun k hk => ?_, fun k hk => ?_⟩
  · have : k < 1 := hk
    obtain rfl : k = 0 := by omega
    exact ⟨by decide, by decide⟩
  · have : k < 2 := hk
    rcases (show k = 0 ∨ k = 1 by omega) with rfl | rfl <;> decide
/-- the outcome of live's run -/
theorem live_run {w w' : World} {e : Ending} (h : ExRunPost 2 2 liCode liOuts [7, 3] w e w') : ∃ a c, e = .returned (.tuple #[.slice a 1 c, .int .i64 0, .int .i64 0]) ∧ PRow 0 w' (.slice a 1 c) [2] ∧ Below w.heap.size w w' := by
  have a2 : afterN liCode (startN [7, 3] (2 : Int).toNat) 2 = some [2, 3] := by decide +kernel
  obtain ⟨h, hB⟩ := h
  rcases h with ⟨hn, _⟩ | ⟨_, hn, _⟩ | ⟨_, _, m, s, hk, h1, h2, _⟩ | ⟨_, _, s, v, h1, rfl, h3⟩
  · exact absurd liOk hn
  · exact absurd (by decide) hn
  · have : m < 2 := hk
    have := afterN_mono h2 (show m + 1 ≤ 2 by omega)
    rw [a2] at this; cases this
  · rw [show liCode.length = 2 from rfl, a2] at h1
    cases h1
    have h4 : OwnF IsInt 34 w w' v ([2] : List Int).length (fun k => ([2] : List Int).getD k 0) := h3.congr' (fun k hk => by have : k < 1 := hk; obtain rfl : k = 0 := (by omega); rfl)
    have h5 := h4.row
    obtain ⟨a, c, rfl, -⟩ := h3.view
    exact ⟨a, c, rfl, h5.rebase (Nat.zero_le _), hB⟩
set_option maxRecDepth 100000 in
set_option maxHeartbeats 8000000 in
theorem live_c (w : World) : Calls Tryd.prog 24 #[] w fun e w' => e = .returned (.bool true) ∧ Below w.heap.size w w' := by
  have hB := Below.refl w.heap.size w
  go_enter Tryd.func24, Tryd.ntmps24
  go_wp2_with fail
  refine wp_nameC fun w1 hW1 => ?_
  have hb1 : Below w.heap.size w w1 := by rw [hW1]; repeat (first | exact Below.refl _ _ | exact hB | refine Below.drew ?_ | refine below_drewN ?_ _ | refine bset ?_ (by simp <;> omega) _ | refine bal ?_ _)
  have hI : InsV w1 (some ⟨w.heap.size, 0, none⟩) 2 liCode := .inr ⟨w.heap.size, 0, rfl, by decide, fun k hk => by
    rw [hW1]
    have hk2 : k < 2 := hk
    rcases (show k = 0 ∨ k = 1 by omega) with rfl | rfl
    · constructor <;> simp [go_sem, liCode]
    · constructor <;> simp [go_sem, liCode]⟩
  have hO : IntsV w1 (some ⟨w.heap.size + 1, 0, none⟩) 1 liOuts := .inr ⟨w.heap.size + 1, 0, rfl, by decide, fun k hk => by
    rw [hW1]
    have hk2 : k < 1 := hk
    obtain rfl : k = 0 := by omega
    simp [go_sem, liOuts]⟩
  have hR : RowI w1 (.slice (some ⟨w.heap.size + 1 + 1, 0, none⟩) 2 2) [7, 3] := ⟨_, _, rfl, fun k hk => ⟨_, _, rfl, by
    rw [hW1]
    have hk2 : k < 2 := hk
    rcases (show k = 0 ∨ k = 1 by omega) with rfl | rfl <;> simp [go_sem], by
    have hk2 : k < 2 := hk
    rcases (show k = 0 ∨ k = 1 by omega) with rfl | rfl <;> (unfold I64; simp)⟩⟩
  have HH := Lib.hid (And.intro hI hO)
  have oc := rowOf_c _ _ _ hR (by decide)
  clear hW1 hI hO hR
  refine oc.mono ?_
  rintro e w2 ⟨v2, rfl, hr2, hb2⟩
  have HR2 := Lib.hid (hr2.row.rebase (Nat.zero_le _))
  obtain ⟨a2, c2, hv2⟩ := hr2.ex
  replace hv2 : v2 = .slice a2 2 c2 := hv2
  subst hv2
  have hB2 := bthen hb1 hb2
  clear hr2 oc
  have hBw := Below.refl w2.heap.size w2
  have rx := fun W (h : Below w2.heap.size w2 W) => exRun_c 2 2 (some ⟨w.heap.size, 0, none⟩) (some ⟨w.heap.size + 1, 0, none⟩) 2 1 liCode liOuts (.slice a2 2 c2) [7, 3] 64 W (HH.out.1.keep (bthen hb2 h)) (HH.out.2.keep (bthen hb2 h)) (HR2.out.keep lims_int h) (by decide) (fun j => by
    by_cases h : j < 2
    · rcases (show j = 0 ∨ j = 1 by omega) with rfl | rfl <;> (unfold Bd; decide)
    · rw [List.getD_eq_getElem?_getD, List.getElem?_eq_none (by simpa using h)]; exact bd_zero) (by omega)
  go_wp2_with fail
  refine (rx _ (by repeat (first | exact Below.refl _ _ | exact hBw | refine Below.drew ?_ | refine below_drewN ?_ _ | refine bset ?_ (by simp <;> omega) _ | refine bal ?_ _))).mono ?_
  rintro e w3 hr3
  obtain ⟨a3, c3, rfl, hr, hb3⟩ := live_run hr3
  have HR3 := Lib.hid hr
  have hB3 := bthen hB2 (bthen (by repeat (first | exact Below.refl _ _ | exact hBw | refine Below.drew ?_ | refine below_drewN ?_ _ | refine bset ?_ (by simp <;> omega) _ | refine bal ?_ _)) hb3)
  clear hr hr3 rx
  have hBz := Below.refl w3.heap.size w3
  have tx := fun W (h : Below w3.heap.size w3 W) => rowText1_c (.slice a3 1 c3) 2 64 W (HR3.out.keep lims_int h) (by unfold Bd; decide) (by omega) (by decide +kernel)
  rw [show ((⟨#[91]⟩ : ByteArray) ++ ⟨(intTxt 2).toArray⟩ ++ ⟨#[93]⟩) = ⟨#[91, 50, 93]⟩ by decide +kernel] at tx
  go_wp2_with fail
  refine (tx _ (by repeat (first | exact Below.refl _ _ | exact hBz | refine Below.drew ?_ | refine below_drewN ?_ _ | refine bset ?_ (by simp <;> omega) _ | refine bal ?_ _))).mono ?_
  rintro e w4 ⟨rfl, hb4⟩
  have hB4 : Below w.heap.size w w4 := bthen hB3 (bthen (by repeat (first | exact Below.refl _ _ | exact hBz | refine Below.drew ?_ | refine below_drewN ?_ _ | refine bset ?_ (by simp <;> omega) _ | refine bal ?_ _)) hb4)
  clear tx
  go_wp2
  go_ret
  exact ⟨rfl, by repeat (first | exact Below.refl _ _ | exact hB4 | refine Below.drew ?_ | refine below_drewN ?_ _ | refine bset ?_ (by simp <;> omega) _ | refine bal ?_ _)⟩
end Go.Proofs.YtannhpadoooedaaDoor
/- row: each. -/
namespace Go.Proofs.YtannhpadoooedaaDoor
open Num
open Go.ChangeShapes Go.WideShapes Go.ChangeAt Go.RowKit
set_option linter.unusedVariables false
set_option linter.unusedSimpArgs false

/-- a row of the call's own (from base on), by a function -/
def OwnNB (base : Nat) (w : World) (v : Value) (n : Nat) (f : Nat → Int) : Prop :=
  ∃ xs, w.ownsRow base 34 2 v n xs ∧ ∀ k, k < n → ∃ nb a len c, xs[k * 2]? = some (.bool nb) ∧ xs[k * 2 + 1]? = some (.slice a len c) ∧ IsInt w (.agg #[.bool nb, .slice a len c]) (f k)
section
variable {base : Nat} {w w' : World} {v : Value} {n : Nat} {f : Nat → Int}
theorem OwnNB.nil (base : Nat) (w : World) (f : Nat → Int) : OwnNB base w (.slice none 0 0) 0 f := ⟨[], World.ownsRow_nil _ _ _ _, fun k hk => absurd hk (by omega)⟩
theorem OwnNB.kp {S : TypeId → Prop} (h : OwnNB base w v n f) (k : Kp S w w') (h1 : S 34) (h2 : S 120) : OwnNB base w' v n f := by
  obtain ⟨xs, hO, h⟩ := h
  refine ⟨xs, owns_kp hO k h1, fun j hj => ?_⟩
  obtain ⟨nb, a, len, c, k1, k2, k3⟩ := h j hj
  exact ⟨nb, a, len, c, k1, k2, k3.lim (k.lim h2)⟩
theorem OwnNB.keep (h : OwnNB base w v n f) (k : Below w.heap.size w w') : OwnNB base w' v n f := h.kp (S := fun _ => True) (Kp.of_below _ k) trivial trivial
theorem OwnNB.ex (h : OwnNB base w v n f) : ∃ a c, v = .slice a n c := by
  obtain ⟨xs, ⟨_, h1⟩, _⟩ := h
  rcases h1 with ⟨rfl, rfl⟩ | ⟨g, cap, cur, rfl, _⟩
  · exact ⟨none, 0, rfl⟩
  · exact ⟨_, _, rfl⟩
theorem OwnNB.congr {f' : Nat → Int} (h : OwnNB base w v n f) (he : ∀ k, k < n → f k = f' k) : OwnNB base w v n f' := by
  obtain ⟨xs, h1, h2⟩ := h
  exact ⟨xs, h1, fun k hk => by rw [← he k hk]; exact h2 k hk⟩
theorem OwnNB.rowO {l : List Int} (h : OwnNB base w v n f) (hl : l.length = n) (he : ∀ k, k < n → f k = l.getD k 0) : RowO IsInt 34 base w v l := by
  subst hl
  obtain ⟨xs, h1, h2⟩ := h
  exact ⟨xs, h1, fun k hk => by rw [← he k hk]; exact h2 k hk⟩
end
section
variable {P : Program} {ops : Array Oper} {o : Oper} {a : Act} {Q : Exit → Act → World → Prop} {base : Nat} {wr : World} {v : Value} {n : Nat} {f : Nat → Int} {t : TypeId} {s x : Operand} {nb : Bool} {ad : Option Addr} {len c cc : Nat} {z : Int}
/-- append of one number to such a row -/
theorem app_numB {rest : List Oper} (hgd : o.guard = none)
    (ho : o.op = .call { callee := .builtin .append, args := #[s, x], argTypes := #[31, 31] }) (hO : OwnNB base wr v n f) (hbase : base ≤ wr.heap.size) (hv : IsInt wr (.agg #[.bool nb, .slice ad len c]) z) (hs : a.eval s = v)
    (hx : a.eval x = .slice (some ⟨wr.heap.size, 0, none⟩) 1 cc) (hn : n + 1 ≤ 1099511627776)
    (h : ∀ v' w', OwnNB base w' v' (n + 1) (fun i => if i = n then z else f i) → Kp (· ≠ 34) wr w' → Out (fun k => base ≤ k) wr w' → wpList Tryd.prog ops Q rest (a.put o.dst v') w') : wpList Tryd.prog ops Q (o :: rest) a (wr.alloc (.cells #[.bool nb, .slice ad len c] t)) := by
  obtain ⟨i, z0, hi, hz, hsize, hby, hzs⟩ := elInt.info
  obtain ⟨xs, h1, h2⟩ := hO
  refine wpList_append_own _ hgd s x _ ho base 34 i z0 2 32 elInt.ht hi hz hsize hby hzs elInt.pos v n xs hs (h1.alloc _) ⟨wr.heap.size, 0, none⟩ 1 cc [.bool nb, .slice ad len c] hx rfl (cells_new wr _ t) (fun u hu => by simp at hu; rcases hu with rfl | rfl <;> rfl) (by unfold maxLen; omega) (by omega) (by simp; omega) ?_
  intro v' w' hown hg _
  have hk : Kp (· ≠ 34) wr w' := ((Kp.refl _ wr).alloc _).grown hg fun q hg' t' ht hne => hne (by
    rw [own_typ' (h1.alloc _) hg'] at ht
    exact (Option.some.inj ht).symm)
  have hl : Lim wr w' := hk.lim (by decide)
  refine h v' w' ⟨_, hown, fun k hk' => ?_⟩ hk (((Out.refl _ wr).alloc _).grown hg fun k hk' _ => (h1.lt k hk').1)
  by_cases e : k = n
  · subst e
    refine ⟨nb, ad, len, c, ?_, ?_, ?_⟩
    · rw [List.getElem?_append_right (by rw [h1.1]; omega), h1.1]; simp
    · rw [List.getElem?_append_right (by rw [h1.1]; omega), h1.1]; simp
    · simp only [if_true]; exact hv.lim hl
  · obtain ⟨nb1, a1, len1, c1, k1, k2, k3⟩ := h2 k (by omega)
    refine ⟨nb1, a1, len1, c1, ?_, ?_, ?_⟩
    · rw [List.getElem?_append_left (by rw [h1.1]; omega)]; exact k1
    · rw [List.getElem?_append_left (by rw [h1.1]; omega)]; exact k2
    · show IsInt _ _ (if k = n then z else f k)
      rw [if_neg e]; exact k3.lim hl
end
end Go.Proofs.YtannhpadoooedaaDoor
/- row: each. -/
namespace Go.Proofs.YtannhpadoooedaaDoor
open Num
open Go.ChangeShapes Go.WideShapes Go.ChangeAt Go.RowKit
set_option linter.unusedVariables false
set_option linter.unusedSimpArgs false
attribute [local go_sem ↓] Go.wp_at_zero Go.wp_at_succ
/-- what a function value does to the numbers l, one by one: P j holds ahead of the j-th; it writes ints of the blocks X alone -/
def FnE (X : Nat → Prop) (P : Nat → World → Prop) (l : List Int) (f : Nat → Int) (F : Nat) (bnd caps : Array Value) : Prop :=
  ∀ j W u, j < l.length → P j W → IsInt W u (l.getD j 0) → Calls Tryd.prog F (bnd ++ #[u] ++ caps) W fun e w' => (∃ x, e = .returned x ∧ IsInt w' x (f j)) ∧ P (j + 1) w' ∧ Kp (· ≠ 3) W w' ∧ Out X W w'
set_option maxRecDepth 100000 in
set_option maxHeartbeats 8000000 in
theorem each_c (v : Value) (l : List Int) (F : Nat) (bnd caps : Array Value) (f : Nat → Int) (P : Nat → World → Prop) (X : Nat → Prop) (w : World) (hv : PRow 0 w v l) (hl : l.length ≤ 1099511627775) (eF : Enters Tryd.prog F) (hP0 : P 0 w)
    (hPk : ∀ j W W', P j W → Kp (· ≠ 34) W W' → Out (fun k => w.heap.size ≤ k) W W' → P j W') (hX : ∀ b, X b → typOf w b = some 3) (hf : FnE X P l f F bnd caps) :
    Calls Tryd.prog 121 #[v, .func (.func F) bnd caps] w fun e w' => (∃ u, e = .returned u ∧ OwnNB w.heap.size w' u l.length f) ∧ P l.length w' ∧ Out X w w' := by
  have HV := Lib.hid hv
  have HPK := Lib.hid hPk
  have HX := Lib.hid hX
  have HF := Lib.hid hf
  have HP0 := Lib.hid hP0
  obtain ⟨va, vc, rfl, -⟩ := hv
  clear hPk hX hf hP0
  unfold Enters at eF
  have hO0 := Out.refl X w
  go_enter Tryd.func121, Tryd.ntmps121
  go_wp2
  go_loopw [5, 10] (fun v x wr => ∃ j : Nat, j ≤ l.length ∧ x = .int .i64 j ∧ Hid (OwnNB w.heap.size wr v j f) ∧ Hid (P j wr) ∧ Out X w wr) (fun _ x _ => l.length - (intOf x).toNat)
  case atStart => exact ⟨0, Nat.zero_le _, rfl, Lib.hid (OwnNB.nil _ _ _), HP0, hO0⟩
  case round =>
    obtain ⟨j, hj, rfl, hR, hP, hOr⟩ := hrel
    obtain ⟨fa, fc, hfv⟩ := hR.out.ex
    subst hfv
    by_cases hlt : j < l.length
    · have hltI : (j : Int) < (l.length : Int) := by omega
      have hkp : Kp (· ≠ 3) w wr := Kp.out hOr (fun q t hq ht k => by rw [HX.out q hq] at ht; exact k (Option.some.inj ht).symm)
      obtain ⟨a', c', he, -, vr⟩ := (HV.out.kp lims_int hkp (by decide) (by decide)).view
      obtain ⟨rfl, -, rfl⟩ := Value.slice.inj he
      obtain ⟨b, off, nx, ax, lx, cx, rfl, c0, c1, hi⟩ := vr j hlt
      have HI := Lib.hid hi
      have zb := cell_lt c0
      have hsz : w.heap.size ≤ wr.heap.size := hOr.size
      have fcl := fun W (q : Below wr.heap.size wr W) => HF.out j W (.agg #[.bool nx, .slice ax lx cx]) hlt (HPK.out j wr W hP.out (Kp.of_below _ q) (Out.of_below _ q)) (HI.out.keep q)
      have hBw := Below.refl wr.heap.size wr
      clear hi vr he
      have HSN := Lib.hid (show ∀ k, k < j + 1 → (fun i => if i = j then f j else f i) k = f k from fun k hk => by dsimp only; split; (subst_vars; rfl); rfl)
      obtain ⟨z, hz⟩ : ∃ z, f j = z := ⟨_, rfl⟩
      rw [hz] at fcl HSN
      clear hz
      go_wp2_with (first
        | (go_at_fn F; refine (fcl _ ?_).mono ?_; (repeat (first | exact Below.refl _ _ | exact hBw | refine Below.drew ?_ | refine below_drewN ?_ _ | refine bset ?_ (by simp <;> omega) _ | refine bal ?_ _)); rintro e w5 ⟨⟨x5, rfl, hx5⟩, hp5, hk5, ho5⟩; have HX5 := Lib.hid hx5; have HP5 := Lib.hid hp5; have hk5' : Kp (· ≠ 3) wr w5 := (Kp.of_below _ (by repeat (first | exact Below.refl _ _ | exact hBw | refine Below.drew ?_ | refine below_drewN ?_ _ | refine bset ?_ (by simp <;> omega) _ | refine bal ?_ _))).trans hk5; have ho5' : Out X wr w5 := (Out.of_below _ (by repeat (first | exact Below.refl _ _ | exact hBw | refine Below.drew ?_ | refine below_drewN ?_ _ | refine bset ?_ (by simp <;> omega) _ | refine bal ?_ _))).trans ho5; obtain ⟨n5, a5, c5, l5, rfl, -⟩ := hx5; unfold iv at *; have hR5 := Lib.hid (hR.out.kp hk5' (by decide) (by decide)); have hO5 : Out X w w5 := hOr.trans ho5'; have hz5 : w.heap.size ≤ w5.heap.size := hO5.size; clear fcl hp5 hk5 ho5)
        | (at_builtin; refine app_numB (by rfl) (by rfl) hR5.out hz5 HX5.out (by rfl) (by rfl) (by omega) ?_)
        | fail)
      intro v8 w8 hR8 hk8 ho8
      have HR8 := Lib.hid (hR8.congr HSN.out)
      have HP8 := Lib.hid (HPK.out _ _ _ HP5.out hk8 ho8)
      have hO8 : Out X w w8 := hO5.then ho8 (fun i h1 h2 => by omega)
      clear hR8 hk8 ho8
      go_wp2
      exact ⟨⟨j + 1, by omega, by go_num, HR8, HP8, hO8⟩, by simp [intOf]; omega⟩
    · obtain rfl : j = l.length := by omega
      go_wp2
      go_ret
      exact ⟨⟨_, rfl, hR.out⟩, hP.out, hOr⟩
theorem out_none {w w' : World} (h : Out (fun _ => False) w w') : Below w.heap.size w w' := h.to_below (fun _ _ _ h => h) (Nat.le_refl _)
theorem map_getD {l : List Int} (g : Int → Int) {k : Nat} (hk : k < l.length) : (l.map g).getD k 0 = g (l.getD k 0) := by simp [hk]
set_option maxRecDepth 100000 in
set_option maxHeartbeats 2000000 in
theorem rowNeg_c (v : Value) (l : List Int) (w : World) (hv : PRow 0 w v l) (hl : l.length ≤ 1099511627775) :
    Calls Tryd.prog 91 #[v] w fun e w' => (∃ u, e = .returned u ∧ RowO IsInt 34 w.heap.size w' u (l.map fun x => -x)) ∧ Below w.heap.size w w' := by
  have ec := fun W (h : Below w.heap.size w W) => each_c v l 70 #[] #[] (fun j => -(l.getD j 0)) (fun _ _ => True) (fun _ => False) W (hv.keep lims_int h) hl (ens Tryd.func70 (by kernel_rfl) rfl) trivial (fun _ _ _ _ _ _ => trivial) (fun _ h => h.elim) (fun j W u hj _ hu => (neg_c u _ W hu).mono fun e w' ⟨h1, h2⟩ => ⟨h1, trivial, Kp.of_below _ h2, Out.of_below _ h2⟩)
  obtain ⟨va, vc, rfl, -⟩ := hv
  have hB := Below.refl w.heap.size w
  go_enter Tryd.func91, Tryd.ntmps91
  go_wp2_with fail
  refine (ec _ (by repeat (first | exact Below.refl _ _ | exact hB | refine Below.drew ?_ | refine below_drewN ?_ _ | refine bset ?_ (by simp <;> omega) _ | refine bal ?_ _))).mono ?_
  rintro e w1 ⟨⟨u, rfl, hu⟩, -, hO⟩
  have HU := Lib.hid (show RowO IsInt 34 w.heap.size w1 u (l.map fun x => -x) from hu.rowO (by simp) (fun k hk => by rw [map_getD _ hk]))
  have hB1 := out_none hO
  obtain ⟨ua, uc, rfl⟩ := hu.ex
  clear ec hu hO
  go_wp2
  go_ret
  exact ⟨⟨_, rfl, HU.out⟩, hB1⟩
end Go.Proofs.YtannhpadoooedaaDoor
