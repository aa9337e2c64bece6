/- matrix: eliminated. -/
import Derived.Test.YtbmaffijncapiaaGreatDoorD18
import Derived.Test.YtbmaffijncapiaaGreatDoorD02
import Derived.Deep.DeepFit
import Derived.Deep.DeepCutAuto
set_option linter.unusedVariables false
set_option linter.unusedSimpArgs false
namespace Go.Proofs.YtbmaffijncapiaaGreatDoor
open Num
open Go.ChangeShapes Go.WideShapes Go.ChangeAt Go.RowKit
set_option linter.unusedVariables false
set_option linter.unusedSimpArgs false
attribute [local go_sem ↓] Go.wp_at_zero Go.wp_at_succ
theorem OwnL.rowsW {w1 wr : World} {v : Value} {L : List (Nat × List Int)} {g : Grid} {m : Nat} (h : OwnL 68 (PRb w1.heap.size) w1 wr v L) (hL : L.map Prod.snd = g) (hr : Rct g m)
    (hinc : ∀ i j, i < j → j < L.length → (L.getD i default).1 < (L.getD j default).1) (h0 : 0 < g.length) :
    ∃ B c, v = .slice (some ⟨B, 0, none⟩) g.length c ∧ RowsW w1.heap.size wr.heap.size B g.length m wr (fun i => (L.getD i default).1) (gat g) := by
  have hlen : L.length = g.length := by rw [← hL, List.length_map]
  obtain ⟨xs, ⟨⟨hl, h1⟩, _⟩, h2⟩ := h
  have at' : ∀ i (hi : i < g.length), L[i]'(by omega) = L.getD i default := fun i hi => by simp [hlen, hi]
  have snd' : ∀ i, i < g.length → (L.getD i default).2 = g.getD i [] := fun i hi => by
    rw [← hL, List.getD_eq_getElem?_getD, List.getD_eq_getElem?_getD, List.getElem?_map, List.getElem?_eq_getElem (show i < L.length by omega)]; rfl
  rcases h1 with ⟨rfl, h0'⟩ | ⟨B, cap, cur, rfl, hg, hh, hc, hm, hs, ht⟩
  · omega
  · have htB : typOf wr B = some 68 := by unfold typOf; rw [hh]
    refine ⟨B, cap, by rw [hlen], htB, hg, typ_lt htB, ⟨typ_lt htB, fun j => by simp [World.frozen?, hh]⟩, fun i hi => ?_, fun i hi => ?_, fun i hi => ?_, fun i hi => ?_, fun i hi => ?_, fun i j hi hj e => ?_, fun i hi => ?_⟩
    · obtain ⟨u, hu, c, e, _⟩ := h2 i (by omega)
      rw [at' i hi] at e
      refine ⟨c, ?_⟩
      rw [snd' i hi, hr i hi] at e
      subst e
      rw [← ht, List.getElem?_take_of_lt (by omega)] at hu
      simpa [World.cell?, hh] using hu
    · obtain ⟨u, hu, c, e, _, ht2, _⟩ := h2 i (by omega); rw [at' i hi] at ht2; exact ht2
    · obtain ⟨u, hu, c, e, hb, _⟩ := h2 i (by omega); rw [at' i hi] at hb; exact hb
    · obtain ⟨u, hu, c, e, _, ht2, _⟩ := h2 i (by omega); rw [at' i hi] at ht2; exact typ_lt ht2
    · obtain ⟨u, hu, c, e, _, _, hf, _⟩ := h2 i (by omega); rw [at' i hi] at hf; exact hf
    · rcases Nat.lt_trichotomy i j with hij | hij | hij
      · have := hinc i j hij (by omega); omega
      · exact hij
      · have := hinc j i hij (by omega); omega
    · obtain ⟨u, hu, c, e, _, _, _, hI⟩ := h2 i (by omega)
      rw [at' i hi, snd' i hi, hr i hi] at hI
      exact hI
theorem OwnL.ltb {base : Nat} {w1 wr : World} {v : Value} {L : List (Nat × List Int)} (h : OwnL 68 (PRb base) w1 wr v L) : ∀ i, i < L.length → (L.getD i default).1 < wr.heap.size := fun i hi => by
  obtain ⟨xs, _, h2⟩ := h
  obtain ⟨u, hu, c, e, _, ht, _⟩ := h2 i hi
  have : L.getD i default = L[i] := by simp [hi]
  rw [this]; exact typ_lt ht
theorem VarI.out {X : Nat → Prop} {ub : Nat} {m : Int} {w w' : World} (h : VarI ub m w) (ho : Out X w w') (hx : ¬ X ub) (hl : Lim w w') : VarI ub m w' := by
  obtain ⟨ht, n, a, ln, c, h0, h1, f0, f1, hi⟩ := h
  exact ⟨by rw [typ_of_block (w := w) (ho.block ub (typ_lt ht) hx)]; exact ht, n, a, ln, c, okeep ho h0 hx, okeep ho h1 hx, okeepf ho h0 f0 hx, okeepf ho h1 f1 hx, hi.lim hl⟩
theorem infoInt64 : (Tryz.prog.info? 3).map (fun i => (i.zero, i.size, i.bytes)) = some (some (.int .i64 0), 1, 8) := by kernel_rfl
theorem elInts : Elt Tryz.prog 23 3 1 8 := Elt.mk' Tryz.underlying23 infoInt64 rfl (by decide) (by decide)
structure ElS (w : World) (lb base top B n m : Nat) (wr : World) (pv : Value) (s : Det.El) : Prop where
  bel : Below w.heap.size w wr
  r : wr.cell? ⟨w.heap.size, 0, none⟩ = some (.bool false) ∧ wr.cell? ⟨w.heap.size, 1, none⟩ = some (.slice none 0 0) ∧ wr.frozen? ⟨w.heap.size, 0, none⟩ = false ∧ wr.frozen? ⟨w.heap.size, 1, none⟩ = false
  rt : typOf wr w.heap.size = some 50
  rows : 0 < n → ∃ bs, RowsW base top B n m wr bs s.g
  last : VarI lb s.last wr
  piv : OwnL 3 PInt w wr pv s.p
theorem ElS.keep {w : World} {lb base top B n m : Nat} {wr w' : World} {pv : Value} {s : Det.El} (h : ElS w lb base top B n m wr pv s) (k : Below wr.heap.size wr w') : ElS w lb base top B n m w' pv s := by
  exact ⟨bthen h.bel k, ⟨bkeep k h.r.1, bkeep k h.r.2.1, bkeepf k h.r.1 h.r.2.2.1, bkeepf k h.r.2.1 h.r.2.2.2⟩, typ_keep h.rt k, fun h0 => by obtain ⟨bs, hb⟩ := h.rows h0; exact ⟨bs, hb.keep k⟩, h.last.keep k, h.piv.below prs_pint k⟩
section
variable {w : World} {lb base top B n m : Nat} {wr w' w7 : World} {pv : Value} {s : Det.El}
theorem swp_self (g : Nat → Nat → Int) (k : Nat) : Det.swp g k k = g := by funext r c; unfold Det.swp; split <;> simp_all
theorem ElS.swap (h : ElS w lb base top B n m wr pv s) {bs : Nat → Nat} (hr : RowsW base top B n m wr bs s.g) (hwb : w.heap.size < base) (htl : top ≤ lb) {i k : Nat} (hi : i < n) (hk : k < n) {ci ck : Nat} (hci : wr.cell? ⟨B, i, none⟩ = some (.slice (some ⟨bs i, 0, none⟩) m ci)) (hck : wr.cell? ⟨B, k, none⟩ = some (.slice (some ⟨bs k, 0, none⟩) m ck)) :
    ElS w lb base top B n m ((wr.setCell ⟨B, i, none⟩ (.slice (some ⟨bs k, 0, none⟩) m ck)).setCell ⟨B, k, none⟩ (.slice (some ⟨bs i, 0, none⟩) m ci)) pv ⟨Det.swp s.g i k, s.p, s.last, s.sign⟩ := by
  have h1 := hr.lo
  have h2 := hr.hi
  have ho : Out (fun q => q = B) wr ((wr.setCell ⟨B, i, none⟩ (.slice (some ⟨bs k, 0, none⟩) m ck)).setCell ⟨B, k, none⟩ (.slice (some ⟨bs i, 0, none⟩) m ci)) := ((Out.refl (fun q => q = B) wr).set (p := ⟨B, i, none⟩) (fun _ => show B = B from rfl) _).set (p := ⟨B, k, none⟩) (fun _ => show B = B from rfl) _
  have hk0 : Kp (fun t => t ≠ 68) wr ((wr.setCell ⟨B, i, none⟩ (.slice (some ⟨bs k, 0, none⟩) m ck)).setCell ⟨B, k, none⟩ (.slice (some ⟨bs i, 0, none⟩) m ci)) := Kp.out ho (fun q t hq ht => by subst hq; rw [hr.tB] at ht; cases ht; exact fun hh => hh rfl)
  have hne : ¬ w.heap.size = B := by omega
  exact ⟨bset (bset h.bel (by show w.heap.size ≤ B; omega) _) (by show w.heap.size ≤ B; omega) _, ⟨okeep ho h.r.1 hne, okeep ho h.r.2.1 hne, okeepf ho h.r.1 h.r.2.2.1 hne, okeepf ho h.r.2.1 h.r.2.2.2 hne⟩, by rw [typ_set, typ_set]; exact h.rt, fun _ => ⟨_, hr.swap hi hk hci hck⟩, h.last.out ho (show ¬ lb = B by omega) (hk0.lim (by decide)), h.piv.kp prs_pint hk0 (fun _ hf => hf.elim) (by decide) (bset (bset h.bel (by show w.heap.size ≤ B; omega) _) (by show w.heap.size ≤ B; omega) _)⟩
theorem ElS.rowsOut (h : ElS w lb base top B n m w7 pv s) {bs : Nat → Nat} (hr : RowsW base top B n m w7 bs s.g) {g' : Nat → Nat → Int} (ho : Out (fun q => ∃ r, r < n ∧ q = bs r) w7 wr) (hr' : RowsW base top B n m wr bs g') (hwb : w.heap.size < base) (htl : top ≤ lb) : ElS w lb base top B n m wr pv ⟨g', s.p, s.last, s.sign⟩ := by
  have hk0 : Kp (fun t => t ≠ 50) w7 wr := Kp.out ho (fun q t hq ht => by obtain ⟨r, hr1, rfl⟩ := hq; rw [hr.ty r hr1] at ht; cases ht; exact fun hh => hh rfl)
  have hx : ∀ q, q ≤ w.heap.size → ¬ ∃ r, r < n ∧ q = bs r := fun q hq ⟨r, h1, h2⟩ => by have := hr.lob r h1; omega
  have hbel : Below w.heap.size w wr := h.bel.trans (ho.to_below (fun q hq _ => hx q (by omega)) h.bel.size)
  exact ⟨hbel, ⟨okeep ho h.r.1 (hx _ (Nat.le_refl _)), okeep ho h.r.2.1 (hx _ (Nat.le_refl _)), okeepf ho h.r.1 h.r.2.2.1 (hx _ (Nat.le_refl _)), okeepf ho h.r.2.1 h.r.2.2.2 (hx _ (Nat.le_refl _))⟩, by rw [typ_of_block (w := w7) (ho.block _ (typ_lt h.rt) (hx _ (Nat.le_refl _)))]; exact h.rt, fun _ => ⟨bs, hr'⟩, h.last.out ho (fun ⟨r, h1, h2⟩ => by have := hr.hib r h1; omega) (hk0.lim (by decide)), h.piv.kp prs_pint hk0 (fun _ hf => hf.elim) (by decide) hbel⟩
theorem ElS.setLast (h : ElS w lb base top B n m wr pv s) {nb : Bool} {a : Option Addr} {ln c : Nat} {z : Int} (hi : IsInt wr (.agg #[.bool nb, .slice a ln c]) z) (hwb : w.heap.size < base) (htl : top ≤ lb) (hbt : base ≤ top) :
    ElS w lb base top B n m ((wr.setCell ⟨lb, 0, none⟩ (.bool nb)).setCell ⟨lb, 1, none⟩ (.slice a ln c)) pv ⟨s.g, s.p, z, s.sign⟩ := by
  have hl := h.last
  obtain ⟨hty, n', a', ln', c', h0, h1, f0, f1, _⟩ := h.last
  have ho : Out (fun q => q = lb) wr ((wr.setCell ⟨lb, 0, none⟩ (.bool nb)).setCell ⟨lb, 1, none⟩ (.slice a ln c)) := ((Out.refl (fun q => q = lb) wr).set (p := ⟨lb, 0, none⟩) (fun _ => show lb = lb from rfl) _).set (p := ⟨lb, 1, none⟩) (fun _ => show lb = lb from rfl) _
  have hk0 : Kp (fun t => t ≠ 50) wr ((wr.setCell ⟨lb, 0, none⟩ (.bool nb)).setCell ⟨lb, 1, none⟩ (.slice a ln c)) := Kp.out ho (fun q t hq ht => by subst hq; rw [hty] at ht; cases ht; exact fun hh => hh rfl)
  have hne : ¬ w.heap.size = lb := by omega
  have hbel := bset (bset h.bel (p := ⟨lb, 0, none⟩) (by show w.heap.size ≤ lb; omega) (.bool nb)) (p := ⟨lb, 1, none⟩) (by show w.heap.size ≤ lb; omega) (.slice a ln c)
  exact ⟨hbel, ⟨okeep ho h.r.1 hne, okeep ho h.r.2.1 hne, okeepf ho h.r.1 h.r.2.2.1 hne, okeepf ho h.r.2.1 h.r.2.2.2 hne⟩, by rw [typ_set, typ_set]; exact h.rt, fun h0 => by obtain ⟨bs, hb⟩ := h.rows h0; exact ⟨bs, hb.out ho (fun q _ hq hh => by omega) (hk0.lim (by decide))⟩, hl.put hi, h.piv.kp prs_pint hk0 (fun _ hf => hf.elim) (by decide) hbel⟩
theorem RowsW.kp {bs : Nat → Nat} {g : Nat → Nat → Int} {S : TypeId → Prop} (h : RowsW base top B n m wr bs g) (k : Kp S wr w') (h1 : S 50) (h2 : S 68) (h3 : S 177) : RowsW base top B n m w' bs g := by
  have fr : ∀ q t, typOf wr q = some t → S t → Free wr q → Free w' q := fun q t ht hs hf => ⟨typ_lt (k.typ ht hs), fun j => by rw [World.frozen?_of_block (w := wr) (k _ _ ht hs)]; exact hf.2 j⟩
  refine ⟨k.typ h.tB h2, h.lo, h.hi, fr _ _ h.tB h2 h.fB, fun i hi => ?_, fun i hi => k.typ (h.ty i hi) h1, h.lob, h.hib, fun i hi => fr _ _ (h.ty i hi) h1 (h.fr i hi), h.inj, fun i hi => (h.num i hi).stay lims_int (k _ _ (h.ty i hi) h1) (k.lim h3)⟩
  obtain ⟨c, hc⟩ := h.cell i hi
  exact ⟨c, k.cell h.tB h2 hc⟩
theorem VarI.kp {S : TypeId → Prop} {ub : Nat} {z : Int} (h : VarI ub z wr) (k : Kp S wr w') (h1 : S 50) (h3 : S 177) : VarI ub z w' := by
  obtain ⟨ht, n, a, ln, c, h0, h1', f0, f1, hi⟩ := h
  exact ⟨k.typ ht h1, n, a, ln, c, k.cell ht h1 h0, k.cell ht h1 h1', k.frz ht h1 f0, k.frz ht h1 f1, hi.lim (k.lim h3)⟩
theorem ElS.pivots (h : ElS w lb base top B n m wr pv s) {v' : Value} {p' : List Nat} (k : Kp (fun t => t ≠ 3) wr w') (hO : OwnL 3 PInt w w' v' p') : ElS w lb base top B n m w' v' ⟨s.g, p', s.last, s.sign⟩ :=
  ⟨hO.bel, ⟨k.cell h.rt (by decide) h.r.1, k.cell h.rt (by decide) h.r.2.1, k.frz h.rt (by decide) h.r.2.2.1, k.frz h.rt (by decide) h.r.2.2.2⟩, k.typ h.rt (by decide), fun h0 => by obtain ⟨bs, hb⟩ := h.rows h0; exact ⟨bs, hb.kp k (by decide) (by decide) (by decide)⟩, h.last.kp k (by decide) (by decide), hO⟩
theorem ElS.congr (h : ElS w lb base top B n m wr pv s) {s' : Det.El} (hg : ∀ r c, r < n → c < m → s.g r c = s'.g r c) (hp : s.p = s'.p) (hl : s.last = s'.last) : ElS w lb base top B n m wr pv s' :=
  ⟨h.bel, h.r, h.rt, fun h0 => by obtain ⟨bs, hb⟩ := h.rows h0; exact ⟨bs, hb.congr hg⟩, hl ▸ h.last, hp ▸ h.piv⟩
end
def gI (g1 : Nat → Nat → Int) (k j : Nat) (last : Int) (i : Nat) : Nat → Nat → Int := fun r c => if k < r ∧ r < i then Det.elNew g1 k j last r c else g1 r c
def gJ (g1 : Nat → Nat → Int) (k j : Nat) (last : Int) (i c0 : Nat) : Nat → Nat → Int := fun r c => if (k < r ∧ r < i) ∨ (r = i ∧ c < c0) then Det.elNew g1 k j last r c else g1 r c
theorem gJ_put (g1 : Nat → Nat → Int) (k j : Nat) (last : Int) {i c : Nat} : (fun r c' => if r = i ∧ c' = c then Det.elNew g1 k j last i c else gJ g1 k j last i c r c') = gJ g1 k j last i (c + 1) := by
  funext r c'
  dsimp only [gJ]
  by_cases h : r = i ∧ c' = c
  · rw [if_pos h, if_pos (by omega), h.1, h.2]
  · rw [if_neg h]
    have e : ((k < r ∧ r < i) ∨ (r = i ∧ c' < c)) ↔ ((k < r ∧ r < i) ∨ (r = i ∧ c' < c + 1)) := by omega
    simp only [e]
theorem gJ_end (g1 : Nat → Nat → Int) (k j : Nat) (last : Int) {i m : Nat} (hk : k + 1 ≤ i) {r c : Nat} (hc : c < m) : gJ g1 k j last i m r c = gI g1 k j last (i + 1) r c := by
  unfold gJ gI
  have e : ((k < r ∧ r < i) ∨ (r = i ∧ c < m)) ↔ (k < r ∧ r < i + 1) := by omega
  simp only [e]
theorem gI_end (g1 : Nat → Nat → Int) (k j : Nat) (last : Int) {n r c : Nat} (hr : r < n) : gI g1 k j last n r c = if k < r then Det.elNew g1 k j last r c else g1 r c := by
  unfold gI
  have e : (k < r ∧ r < n) ↔ k < r := by omega
  simp only [e]
theorem PRb.rebase {base base' : Nat} {w : World} {u : Value} {x : Nat × List Int} (h : PRb base w u x) (hb : base' ≤ base) : PRb base' w u x := by
  obtain ⟨c, e, h1, r⟩ := h; exact ⟨c, e, Nat.le_trans hb h1, r⟩
theorem getD_app_lt {α : Type} {L M : List α} {d : α} {i : Nat} (h : i < L.length) : (L ++ M).getD i d = L.getD i d := by
  simp [List.getD_eq_getElem?_getD, List.getElem?_append, h]
theorem getD_app_eq {α : Type} {L : List α} {x d : α} : (L ++ [x]).getD L.length d = x := by simp [List.getD_eq_getElem?_getD]
theorem meas {N c : Nat} (h : c < N) {a b : Value} (ha : a = .int .i64 ((c + 1 : Nat) : Int)) (hb : b = .int .i64 (c : Nat)) : N - (intOf a).toNat < N - (intOf b).toNat := by
  subst ha hb
  simp [intOf]
  omega
theorem ne_x {a b c : Nat} (h1 : a < b) (h2 : b ≤ c) : a ≠ c := Nat.ne_of_lt (Nat.lt_of_lt_of_le h1 h2)
theorem five_far {W : World} {p : Addr} (v : Value) {a1 a2 a3 a4 a5 : Addr} {v1 v2 v3 v4 v5 : Value} (h : W.cell? a1 = some v1 ∧ W.cell? a2 = some v2 ∧ W.cell? a3 = some v3 ∧ W.cell? a4 = some v4 ∧ W.cell? a5 = some v5) (n1 : p ≠ a1) (n2 : p ≠ a2) (n3 : p ≠ a3) (n4 : p ≠ a4) (n5 : p ≠ a5) :
    (W.setCell p v).cell? a1 = some v1 ∧ (W.setCell p v).cell? a2 = some v2 ∧ (W.setCell p v).cell? a3 = some v3 ∧ (W.setCell p v).cell? a4 = some v4 ∧ (W.setCell p v).cell? a5 = some v5 :=
  ⟨cell_far h.1 n1 v, cell_far h.2.1 n2 v, cell_far h.2.2.1 n3 v, cell_far h.2.2.2.1 n4 v, cell_far h.2.2.2.2 n5 v⟩
theorem RowsW.neB {base top B n m : Nat} {w : World} {bs : Nat → Nat} {g : Nat → Nat → Int} (h : RowsW base top B n m w bs g) {i : Nat} (hi : i < n) : bs i ≠ B := fun e => by
  have h1 := h.ty i hi
  rw [e, h.tB] at h1
  exact absurd (Option.some.inj h1) (by decide)
def ElimPost (g : Grid) (C : Nat) (w : World) (e : Ending) (w' : World) : Prop :=
  (∃ a c pa pc z, e = .returned (.tuple #[.slice a g.length c, .slice pa (Det.elR g.length (gat g) C).p.length pc, z]) ∧ IsL 3 PInt w.heap.size w' (.slice pa (Det.elR g.length (gat g) C).p.length pc) (Det.elR g.length (gat g) C).p ∧ IsInt w' z ((Det.elR g.length (gat g) C).last * (Det.elR g.length (gat g) C).sign)) ∧ Below w.heap.size w w'
set_option maxRecDepth 100000 in
set_option maxHeartbeats 64000000 in
theorem elim_c (v : Value) (g : Grid) (m C K : Nat) (w : World) (hv : IsL 68 (PRow 0) 0 w v g) (hr : Rct g m) (hm : m ≤ 1099511627775) (hn : g.length ≤ 1099511627775) (hC : C ≤ m) (hn0 : g.length = 0 → C = 0) (hm0 : 0 < g.length → 0 < m) (hK1 : 1 ≤ K) (hbd : BdM K g) (hK : kb K C ≤ 4294967296) :
    Calls Tryz.prog 156 #[v, .int .i64 (C : Nat)] w (ElimPost g C w) := by
  have HV := Lib.hid hv
  obtain ⟨ga, gc, rfl, -⟩ := hv
  have HR := Lib.hid hr
  have HBD := Lib.hid hbd
  clear hr hbd
  have hB := Below.refl w.heap.size w
  go_enter Tryz.func156, Tryz.ntmps156
  go_wp2
  go_step3
  go_wp2
  refine wp_name fun w1 hW1 => ?_
  have hB1 : Below w.heap.size w w1 := by rw [hW1]; repeat (first|exact bzR _ _|exact hB|refine bzD ?_|refine bzN ?_|refine bzS ?_|refine bzA ?_)
  have HRT1 := Lib.hid (show typOf w1 w.heap.size = some 50 from by rw [hW1]; exact typ_fresh rfl)
  have HR1 := Lib.hid (show w1.cell? ⟨w.heap.size, 0, none⟩ = some (.bool false) ∧ w1.cell? ⟨w.heap.size, 1, none⟩ = some (.slice none 0 0) ∧ w1.frozen? ⟨w.heap.size, 0, none⟩ = false ∧ w1.frozen? ⟨w.heap.size, 1, none⟩ = false from by rw [hW1]; simp [go_sem])
  clear hW1
  have hb11 := Below.refl w1.heap.size w1
  go_loopw [7, 23] (fun v x wr => ∃ k : Nat, k ≤ g.length ∧ x = .int .i64 k ∧ Hid (∃ L : List (Nat × List Int), OwnL 68 (PRb w1.heap.size) w1 wr v L ∧ L.length = k ∧ L.map Prod.snd = g.take k ∧ (∀ i j, i < j → j < L.length → (L.getD i default).1 < (L.getD j default).1) )) (fun _ x _ => g.length - (intOf x).toNat)
  case atStart => exact ⟨0, Nat.zero_le _, rfl, Lib.hid ⟨[], OwnL.nil _ _ hb11, rfl, by simp, fun i j _ hj => by simp at hj⟩⟩
  case round =>
    obtain ⟨k, hk, rfl, hrel⟩ := hrel
    obtain ⟨L, hO, hLl, hLs, hinc⟩ := hrel.out
    by_cases hkl : k < g.length
    · have hBr := hO.bel
      have hkI : (k : Int) < (g.length : Int) := by omega
      obtain ⟨c2, gb, go, ra, rc, e2, hu, hp⟩ := (HV.out.keep (prs_prow 0) (bthen hB1 hBr)).row hkl
      obtain ⟨rfl, -, rfl⟩ := Value.slice.inj e2
      have zu := cell_lt hu
      have hrl := HR.out k hkl
      have hm1 : 0 < m := hm0 (by omega)
      have HTK := Lib.hid (take_getD [] hkl)
      obtain ⟨row, hrow⟩ : ∃ row, g.getD k [] = row := ⟨_, rfl⟩
      rw [hrow] at HTK hu hp hrl
      obtain ⟨la, lc, hlv⟩ := hO.ex
      rw [hLl] at hlv
      subst hlv
      have kcl := fun W (h : Below wr.heap.size wr W) => cloneRow_c 0 (.slice ra row.length rc) row W (hp.keep lims_int h) (by omega)
      have HL := Lib.hid (And.intro hO (And.intro hLl (And.intro hLs hinc)))
      have hlt := hO.ltb
      have HRL := Lib.hid hrl
      clear e2 hp hrow hO hLl hLs hinc hrel hrl
      have hBw := Below.refl wr.heap.size wr
      go_wp2_with fail
      refine (kcl _ (by repeat (first|exact bzR _ _|exact hBw|refine bzD ?_|refine bzN ?_|refine bzS ?_|refine bzA ?_))).mono ?_
      rintro e w5 ⟨⟨v5, rfl, hr5⟩, hb5⟩
      have hb5' : Below wr.heap.size wr w5 := bthen (by repeat (first|exact bzR _ _|exact hBw|refine bzD ?_|refine bzN ?_|refine bzS ?_|refine bzA ?_)) hb5
      obtain ⟨b5, hp5⟩ := hr5.prb (by rw [HRL.out]; exact hm1)
      have HB5 := Lib.hid (show wr.heap.size ≤ b5 ∧ b5 < w5.heap.size from by obtain ⟨c5, e5, h1, h2, _⟩ := hp5; exact ⟨h1, typ_lt h2⟩)
      have HP5 := Lib.hid (hp5.rebase (show w1.heap.size ≤ _ from hBr.size))
      have HO5 := Lib.hid (HL.out.1.below (prs_prb _) hb5')
      obtain ⟨a5, c5, rfl⟩ := hr5.ex
      clear kcl hr5 hp5 hu
      go_wp2_with (at_builtin; refine appL elRow (prs_prb _) (by decide) (by rfl) (by rfl) (HO5.out.below (prs_prb _) (bal (Below.refl _ _) _)) ((prs_prb _).kp HP5.out (Kp.of_below _ (bal (Below.refl _ _) _))) (by rfl) (by rfl) (cell_new rfl rfl) (by rw [HL.out.2.1]; omega) (by rw [HL.out.2.1]; unfold maxLen; omega) ?_)
      intro v' w8 hO8 hk8
      have HO8 := Lib.hid hO8
      clear hO8 hk8
      go_wp2
      refine ⟨⟨k + 1, by omega, by go_num, Lib.hid ⟨L ++ [(b5, row)], HO8.out, by simp [HL.out.2.1], by rw [List.map_append, HL.out.2.2.1, HTK.out]; rfl, fun i j hij hj => ?_⟩⟩, by simp [intOf]; omega⟩
      rw [List.length_append] at hj
      have hj' : j < L.length + 1 := hj
      by_cases e : j = L.length
      · subst e
        rw [getD_app_eq, getD_app_lt hij]
        exact Nat.lt_of_lt_of_le (hlt i hij) HB5.out.1
      · rw [getD_app_lt (by omega), getD_app_lt (by omega)]
        exact HL.out.2.2.2 i j hij (by omega)
    · obtain rfl : k = g.length := by omega
      rw [List.take_length] at hLs
      obtain ⟨B, HB⟩ : ∃ B, Hid (0 < g.length → (∃ c, _ = Value.slice (some ⟨B, 0, none⟩) g.length c) ∧ RowsW w1.heap.size wr.heap.size B g.length m wr (fun i => (L.getD i default).1) (gat g)) := by
        by_cases h0 : 0 < g.length
        · obtain ⟨B, c, e, h⟩ := hO.rowsW hLs HR.out hinc h0
          exact ⟨B, Lib.hid fun _ => ⟨⟨c, e⟩, h⟩⟩
        · exact ⟨0, Lib.hid fun h => absurd h h0⟩
      obtain ⟨la, lc, hlv⟩ := hO.ex
      rw [hLl] at hlv
      subst hlv
      have hBr := bthen hB1 hO.bel
      have HRr := Lib.hid (show wr.cell? ⟨w.heap.size, 0, none⟩ = some (.bool false) ∧ wr.cell? ⟨w.heap.size, 1, none⟩ = some (.slice none 0 0) ∧ wr.frozen? ⟨w.heap.size, 0, none⟩ = false ∧ wr.frozen? ⟨w.heap.size, 1, none⟩ = false from
        ⟨bkeep hO.bel HR1.out.1, bkeep hO.bel HR1.out.2.1, bkeepf hO.bel HR1.out.1 HR1.out.2.2.1, bkeepf hO.bel HR1.out.2.1 HR1.out.2.2.2⟩)
      have HRTr := Lib.hid (typ_keep HRT1.out hO.bel)
      have hs1 := hO.bel.size
      clear hO hLs hinc hLl hrel
      have oc := fun W => of_c 1 W (by decide) (by decide)
      have hBw := Below.refl wr.heap.size wr
      go_wp2_with fail
      refine (oc _).mono ?_
      rintro e w5 ⟨⟨v5, rfl, hi5⟩, hb5⟩
      have hb5' : Below wr.heap.size wr w5 := bthen (by repeat (first|exact bzR _ _|exact hBw|refine bzD ?_|refine bzN ?_|refine bzS ?_|refine bzA ?_)) hb5
      have HI5 := Lib.hid hi5
      obtain ⟨n5, a5, c5, l5, rfl, -⟩ := hi5
      unfold iv at *
      clear oc
      go_wp2
      go_step3
      go_wp2
      refine wp_name fun w6 hW6 => ?_
      have hB56 := Below.refl w5.heap.size w5
      have hb6 : Below w5.heap.size w5 w6 := by rw [hW6]; repeat (first|exact bzR _ _|exact hB56|refine bzD ?_|refine bzN ?_|refine bzS ?_|refine bzA ?_)
      have HLA := Lib.hid (show VarI w5.heap.size 1 w6 from by rw [hW6]; exact ⟨typ_fresh rfl, n5, a5, l5.length, c5, by simp [go_sem], by simp [go_sem], by simp [go_sem], by simp [go_sem], HI5.out.keep (bal (Below.refl _ _) _)⟩)
      clear hW6
      have hb16 := bthen hb5' hb6
      have HE0 := Lib.hid (show ElS w w5.heap.size w1.heap.size wr.heap.size B g.length m w6 (.slice none 0 0) (Det.elR g.length (gat g) 0) from
        ⟨bthen hBr hb16, ⟨bkeep hb16 HRr.out.1, bkeep hb16 HRr.out.2.1, bkeepf hb16 HRr.out.1 HRr.out.2.2.1, bkeepf hb16 HRr.out.2.1 HRr.out.2.2.2⟩, typ_keep HRTr.out hb16, fun h0 => ⟨_, (HB.out h0).2.keep hb16⟩, HLA.out, OwnL.nil _ _ (bthen hBr hb16)⟩)
      have HLV := Lib.hid (show 0 < g.length → la = some ⟨B, 0, none⟩ from fun h0 => by
        obtain ⟨⟨c, e⟩, _⟩ := HB.out h0
        exact (Value.slice.inj e).1)
      have htl : wr.heap.size ≤ w5.heap.size := hb5'.size
      obtain ⟨base, hbase⟩ : ∃ b, w1.heap.size = b := ⟨_, rfl⟩
      obtain ⟨top, htop⟩ : ∃ b, wr.heap.size = b := ⟨_, rfl⟩
      obtain ⟨lb, hlb⟩ : ∃ b, w5.heap.size = b := ⟨_, rfl⟩
      rw [hbase, htop, hlb] at HE0
      rw [htop, hlb] at htl
      rw [hbase, htop] at hs1
      have hwb : w.heap.size < base := by rw [← hbase]; exact Nat.lt_of_lt_of_le (cell_lt HR1.out.1) (Nat.le_refl _)
      rw [hlb]
      clear HLA HI5 HB HRr HR1 hbase htop hlb hb16 hb6 hb5' hBr hB56 hBw hb5 hb11 hB1 hB
      go_loopw [10, 12, 35] (fun pv sv x wr => ∃ t : Nat, t ≤ C ∧ x = .int .i64 t ∧ sv = .int .i64 (Det.elR g.length (gat g) t).sign ∧ Hid (ElS w lb base top B g.length m wr pv (Det.elR g.length (gat g) t))) (fun _ _ x _ => C - (intOf x).toNat)
      case atStart => exact ⟨0, Nat.zero_le _, rfl, rfl, HE0⟩
      case round =>
        rename World => wt
        obtain ⟨t, ht, rfl, rfl, hS⟩ := hrel
        by_cases htC : t < C
        · have htI : (t : Int) < (C : Int) := by omega
          have hn1 : 0 < g.length := by
            apply Nat.pos_of_ne_zero; intro h0; have := hn0 h0; omega
          obtain rfl := HLV.out hn1
          obtain ⟨s, hs⟩ : ∃ s, Det.elR g.length (gat g) t = s := ⟨_, rfl⟩
          have HNX := Lib.hid (show Det.elR g.length (gat g) (t + 1) = Det.elStep g.length s t from by rw [← hs]; rfl)
          have hkn := elR_len g.length (gat g) t
          have hnz := elR_nz g.length (gat g) t
          have hsgn := elR_sgn g.length (gat g) t
          have hbs := elR_bd (n := g.length) (m := m) (K := K) hK1 (fun r c _ _ => HBD.out r c) t (by omega)
          rw [hs] at hS hkn hnz hbs hsgn ⊢
          have HBS := Lib.hid (And.intro hnz hbs)
          have HSN := Lib.hid hsgn
          clear hs hnz hbs hsgn
          obtain ⟨k, hk⟩ : ∃ k, s.p.length = k := ⟨_, rfl⟩
          obtain ⟨pa, pc, hpv⟩ := hS.out.piv.ex
          rw [hk] at hpv hkn
          subst hpv
          have HKK := Lib.hid hk
          clear hk
          have hBw := Below.refl wt.heap.size wt
          obtain ⟨bs, hrw⟩ := hS.out.rows hn1
          have HRW := Lib.hid hrw
          clear hrw
          go_wp2
          go_loopw [15] (fun x wq => ∃ i : Nat, i ≤ g.length ∧ x = .int .i64 i ∧ Below wt.heap.size wt wq ∧ Hid (k ≤ i ∧ ∀ r, k ≤ r → r < i → s.g r t = 0)) (fun x _ => g.length - (intOf x).toNat)
          case atStart => exact ⟨k, hkn, rfl, hBw, Lib.hid ⟨Nat.le_refl _, fun r h1 h2 => by omega⟩⟩
          case round =>
            rename World => wq
            obtain ⟨i, hi, rfl, hbq, hz⟩ := hrel
            by_cases hin : i < g.length
            · have hiI : (i : Int) < (g.length : Int) := by omega
              have HRQ := Lib.hid (HRW.out.keep hbq)
              obtain ⟨ci, hci⟩ := HRQ.out.cell i hin
              obtain ⟨en, ea, el, ec, e0, e1, eI⟩ := (HRQ.out.num i hin).at0 (show t < m by omega)
              have htm : (t : Int) < (m : Int) := by omega
              have zB := cell_lt hci
              have ze := cell_lt e0
              have sc := fun W (h : Below wt.heap.size wt W) (hw : W = W) => True.intro
              have hBq := Below.refl wq.heap.size wq
              have sx := fun W (h : Below wq.heap.size wq W) => sign_c (.agg #[.bool en, .slice ea el ec]) (s.g i t) W (eI.keep h)
              clear sc eI
              by_cases hg0 : s.g i t = 0
              · rw [hg0, Int.sign_zero] at sx
                have HZ := Lib.hid (show k ≤ i + 1 ∧ ∀ r, k ≤ r → r < i + 1 → s.g r t = 0 from ⟨by have := hz.out.1; omega, fun r h1 h2 => by
                  by_cases e : r = i
                  · subst e; exact hg0
                  · exact hz.out.2 r h1 (by omega)⟩)
                clear hg0
                go_wp2_with fail
                refine (sx _ (by repeat (first|exact bzR _ _|exact hBq|refine bzD ?_|refine bzN ?_|refine bzS ?_|refine bzA ?_))).mono ?_
                rintro e w5 ⟨rfl, hb5⟩
                have hb5' : Below wt.heap.size wt w5 := bthen hbq (bthen (by repeat (first|exact bzR _ _|exact hBq|refine bzD ?_|refine bzN ?_|refine bzS ?_|refine bzA ?_)) hb5)
                clear sx
                go_wp2
                exact ⟨⟨i + 1, by omega, by go_num, hb5', HZ⟩, by simp [intOf]; omega⟩
              · obtain ⟨sg, hsg, hsgE⟩ : ∃ q : Int, q ≠ 0 ∧ (s.g i t).sign = q := ⟨_, (fun e => hg0 (Int.sign_eq_zero_iff_zero.1 e)), rfl⟩
                rw [hsgE] at sx
                have hsb : (sg == 0) = false := by simpa using hsg
                have HG := Lib.hid hg0
                have hki := hz.out.1
                clear hsgE hsg hg0
                have hniI : ((i : Int) == (g.length : Int)) = false := by simp; omega
                go_wp2_with fail
                refine (sx _ (by repeat (first|exact bzR _ _|exact hBq|refine bzD ?_|refine bzN ?_|refine bzS ?_|refine bzA ?_))).mono ?_
                rintro e w5 ⟨rfl, hb5⟩
                have hb5' : Below wt.heap.size wt w5 := bthen hbq (bthen (by repeat (first|exact bzR _ _|exact hBq|refine bzD ?_|refine bzN ?_|refine bzS ?_|refine bzA ?_)) hb5)
                clear sx hci e0 e1
                have HS5 := Lib.hid (hS.out.keep hb5')
                have HR5 := Lib.hid (HRW.out.keep hb5')
                have HST := Lib.hid (Det.elStep_some (n := g.length) (s := s) (j := t) (i := i) (by rw [HKK.out]; exact hki) hin (fun r h1 h2 => hz.out.2 r (by rw [HKK.out] at h1; exact h1) h2) HG.out)
                rw [HKK.out] at HST
                clear hS hz HRQ hbq hBq
                have hkn' : k < g.length := by omega
                have HBG := Lib.hid (swp_bd (K := kb K t) (i := i) (k := k) hin hkn' HBS.out.2.1)
                by_cases hik : i = k
                · have hik' := hik.symm
                  subst hik'
                  clear hik
                  have hneI : ((k : Int) != (k : Int)) = false := by simp
                  have HS6 := HS5
                  have HR6 := HR5
                  obtain ⟨w6, hw6⟩ : ∃ w6, w5 = w6 := ⟨_, rfl⟩
                  rw [hw6] at HS6 HR6 ⊢
                  obtain ⟨bs6, hbs6⟩ : ∃ b, bs = b := ⟨_, rfl⟩
                  rw [hbs6] at HR6
                  obtain ⟨g6, hg6⟩ : ∃ g6, s.g = g6 := ⟨_, rfl⟩
                  rw [swp_self, hg6] at HBG HST
                  rw [hg6] at HR6
                  have HS6' := Lib.hid (show ElS w lb base top B g.length m w6 (.slice pa k pc) ⟨g6, s.p, s.last, s.sign⟩ from by rw [← hg6]; exact HS6.out)
                  have HFG := Lib.hid (show ∀ r c, (Det.elR g.length (gat g) (t + 1)).g r c = if k < r then Det.elNew g6 k t s.last r c else g6 r c from fun r c => by rw [HNX.out, HST.out])
                  have HFP := Lib.hid (show s.p ++ [t] = (Det.elR g.length (gat g) (t + 1)).p from by rw [HNX.out, HST.out])
                  have HFL := Lib.hid (show g6 k t = (Det.elR g.length (gat g) (t + 1)).last from by rw [HNX.out, HST.out])
                  have HSG := Lib.hid (show s.sign = (Det.elR g.length (gat g) (t + 1)).sign from by rw [HNX.out, HST.out]; show _ = if k = k then s.sign else - s.sign; rw [if_pos rfl])
                  have HBS' := Lib.hid (show s.last ≠ 0 ∧ (∀ r c, r < g.length → c < m → Bd (kb K t) (g6 r c)) ∧ Bd (kb K t) s.last from by rw [← hg6]; exact HBS.out)
                  clear HS5 HR5 hw6 hbs6 HS6 HST HNX HBS hg6
                  have HS6 := HS6'
                  have HBS := HBS'
                  clear HS6' HBS'
                  have HR6' := HR6.out
                  obtain ⟨ck, hck⟩ := HR6.out.cell k hkn'
                  obtain ⟨pn, pa', pl, pcp, e0, e1, eI⟩ := (HR6.out.num k hkn').at0 (show t < m by omega)
                  have htm : (t : Int) < (m : Int) := by omega
                  have hkI : (k : Int) < (g.length : Int) := by omega
                  have HPI := Lib.hid eI
                  have zB6 := cell_lt hck
                  have ze6 := cell_lt e0
                  have hB6 := Below.refl w6.heap.size w6
                  clear eI HR6'
                  go_wp2
                  skip
                  refine wp_name fun w7 hW7 => ?_
                  have hb7 : Below w6.heap.size w6 w7 := by rw [hW7]; repeat (first|exact bzR _ _|exact hB6|refine bzD ?_|refine bzN ?_|refine bzS ?_|refine bzA ?_)
                  have HPV := Lib.hid (show VarI w6.heap.size (g6 k t) w7 from by rw [hW7]; exact ⟨typ_fresh rfl, pn, pa', pl, pcp, by simp [go_sem], by simp [go_sem], by simp [go_sem], by simp [go_sem], HPI.out.keep (bal (Below.refl _ _) _)⟩)
                  have HS7 := Lib.hid (HS6.out.keep hb7)
                  have HR7 := Lib.hid (HR6.out.keep hb7)
                  have hlb6 : lb < w6.heap.size := by have := HS6.out.last.1; exact typ_lt this
                  obtain ⟨pb, hpb⟩ : ∃ b, w6.heap.size = b := ⟨_, rfl⟩
                  rw [hpb] at HPV hlb6
                  rw [hpb]
                  have hB77 := Below.refl w7.heap.size w7
                  clear hW7 hck e0 e1 hb7 hB6 HPI hpb zB6 ze6
                  have hnx : ∀ q, top ≤ q → ¬ ∃ r, r < g.length ∧ q = bs6 r := fun q hq ⟨r, h1, h2⟩ => by have := HR7.out.hib r h1; omega
                  have HNXX := Lib.hid hnx
                  clear hnx
                  go_loopw [17] (fun x wr => ∃ i' : Nat, i' ≤ g.length ∧ x = .int .i64 i' ∧ Hid (k + 1 ≤ i') ∧ Out (fun q => ∃ r, r < g.length ∧ q = bs6 r) w7 wr ∧ Hid (RowsW base top B g.length m wr bs6 (gI g6 k t s.last i'))) (fun x _ => g.length - (intOf x).toNat)
                  case atStart => exact ⟨k + 1, by omega, by go_num, Lib.hid (Nat.le_refl _), Out.refl _ _, Lib.hid (HR7.out.congr fun r c _ _ => by unfold gI; rw [if_neg (by omega)])⟩
                  case round =>
                    rename World => wi
                    obtain ⟨i', hi', rfl, hki', hOi, hRi⟩ := hrel
                    by_cases hin' : i' < g.length
                    · have hiI' : (i' : Int) < (g.length : Int) := by omega
                      obtain ⟨cf, hcf⟩ := hRi.out.cell i' hin'
                      obtain ⟨fn, fa, fl, fc, d0, d1, dI⟩ := (hRi.out.num i' hin').at0 (show t < m by omega)
                      have hgi : gI g6 k t s.last i' i' t = g6 i' t := by unfold gI; rw [if_neg (by omega)]
                      rw [hgi] at dI
                      have HDI := Lib.hid dI
                      have zBi := cell_lt hcf
                      have zdi := cell_lt d0
                      have hBi := Below.refl wi.heap.size wi
                      clear dI hgi
                      go_wp2
                      refine wp_name fun w8 hW8 => ?_
                      have hb8 : Below wi.heap.size wi w8 := by rw [hW8]; repeat (first|exact bzR _ _|exact hBi|refine bzD ?_|refine bzN ?_|refine bzS ?_|refine bzA ?_)
                      have HFV := Lib.hid (show VarI wi.heap.size (g6 i' t) w8 from by rw [hW8]; exact ⟨typ_fresh rfl, fn, fa, fl, fc, by simp [go_sem], by simp [go_sem], by simp [go_sem], by simp [go_sem], HDI.out.keep (bal (Below.refl _ _) _)⟩)
                      have hfb6 : pb < wi.heap.size := by have := HPV.out.1; have h2 := typ_lt this; have := hOi.size; omega
                      obtain ⟨fb, hfb⟩ : ∃ b, wi.heap.size = b := ⟨_, rfl⟩
                      rw [hfb] at HFV hfb6
                      rw [hfb]
                      have HR8 := Lib.hid (hRi.out.keep hb8)
                      have hO8 := hOi.below hb8
                      clear hW8 hcf d0 d1 HDI zBi zdi hBi hfb hb8
                      go_loopw [108] (fun x wr => ∃ c : Nat, c ≤ m ∧ x = .int .i64 c ∧ Out (fun q => ∃ r, r < g.length ∧ q = bs6 r) w8 wr ∧ Hid (RowsW base top B g.length m wr bs6 (gJ g6 k t s.last i' c))) (fun x _ => m - (intOf x).toNat)
                      case atStart => exact ⟨0, Nat.zero_le _, rfl, Out.refl _ _, Lib.hid (HR8.out.congr fun r c _ _ => by unfold gI gJ; by_cases h : k < r ∧ r < i' <;> simp [h])⟩
                      case round =>
                        rename World => wj
                        obtain ⟨c, hc, rfl, hOj, hRj⟩ := hrel
                        by_cases hcm : c < m
                        · have hcI : (c : Int) < (m : Int) := by omega
                          have hO7j := hO8.trans hOj
                          have HL7 := Lib.hid ((Kp.out (S := fun t => t ≠ 50) hO7j (fun q t hq ht => by obtain ⟨r, hr1, rfl⟩ := hq; rw [HR7.out.ty r hr1] at ht; cases ht; exact fun hh => hh rfl)).lim (by decide))
                          have HL8 := Lib.hid ((Kp.out (S := fun t => t ≠ 50) hOj (fun q t hq ht => by obtain ⟨r, hr1, rfl⟩ := hq; rw [HR8.out.ty r hr1] at ht; cases ht; exact fun hh => hh rfl)).lim (by decide))
                          have HPj := Lib.hid (HPV.out.out hO7j (HNXX.out pb (by omega)) HL7.out)
                          have HFj := Lib.hid (HFV.out.out hOj (HNXX.out fb (by omega)) HL8.out)
                          have HLj := Lib.hid (HS7.out.last.out hO7j (HNXX.out lb (by omega)) HL7.out)
                          obtain ⟨-, pn1, pa1, pl1, pc1, p0, p1, -, -, pI⟩ := HPj.out
                          obtain ⟨-, fn1, fa1, fl1, fc1, f0, f1, -, -, fI⟩ := HFj.out
                          obtain ⟨ci2, hci2⟩ := hRj.out.cell i' hin'
                          obtain ⟨ck2, hck2⟩ := hRj.out.cell k hkn'
                          obtain ⟨en, ea, el, ec, e0, e1, eI⟩ := (hRj.out.num i' hin').at0 hcm
                          obtain ⟨hn', ha', hl', hc', h0, h1, hI⟩ := (hRj.out.num k hkn').at0 hcm
                          have v1 : gJ g6 k t s.last i' c i' c = g6 i' c := by unfold gJ; rw [if_neg (by omega)]
                          have v2 : gJ g6 k t s.last i' c k c = g6 k c := by unfold gJ; rw [if_neg (by have := hki'.out; omega)]
                          rw [v1] at eI
                          rw [v2] at hI
                          have HII := Lib.hid (And.intro pI (And.intro fI (And.intro eI hI)))
                          have b1 := HBG.out k t hkn' (show t < m by omega)
                          have b2 := HBG.out i' c hin' hcm
                          have b3 := HBG.out i' t hin' (show t < m by omega)
                          have b4 := HBG.out k c hkn' hcm
                          have HNEW := Lib.hid (show Det.elNew g6 k t s.last i' c = (g6 k t * g6 i' c - g6 i' t * g6 k c) / s.last from rfl)
                          have hkbm : kb K t + kb K t + 1 ≤ 4294967296 := by
                            have := kb_mono K (show t + 1 ≤ C by omega)
                            rw [kb_succ] at this; omega
                          have HB1 := Lib.hid (And.intro (Bd.mul b1 b2) (Bd.mul b3 b4))
                          have hBXX := Bd.sub HB1.out.1 HB1.out.2
                          have HBX := Lib.hid (And.intro b1 (And.intro b2 (And.intro b3 b4)))
                          obtain ⟨x1, hx1⟩ : ∃ x, g6 k t = x := ⟨_, rfl⟩
                          obtain ⟨y1, hy1⟩ : ∃ x, g6 i' c = x := ⟨_, rfl⟩
                          obtain ⟨x2, hx2⟩ : ∃ x, g6 i' t = x := ⟨_, rfl⟩
                          obtain ⟨y2, hy2⟩ : ∃ x, g6 k c = x := ⟨_, rfl⟩
                          rw [hx1, hy1, hx2, hy2] at HNEW HB1 HBX hBXX
                          rw [hx1, hx2, hy1, hy2] at HII
                          have mc1 := fun W (q : Below wj.heap.size wj W) => mul_c (.agg #[.bool pn1, .slice pa1 pl1 pc1]) (.agg #[.bool en, .slice ea el ec]) x1 y1 (kb K t) (kb K t) W (HII.out.1.keep q) (HII.out.2.2.1.keep q) HBX.out.1 HBX.out.2.1 (by omega) (by omega)
                          have mc2 := fun W (q : Below wj.heap.size wj W) => mul_c (.agg #[.bool fn1, .slice fa1 fl1 fc1]) (.agg #[.bool hn', .slice ha' hl' hc']) x2 y2 (kb K t) (kb K t) W (HII.out.2.1.keep q) (HII.out.2.2.2.keep q) HBX.out.2.2.1 HBX.out.2.2.2 (by omega) (by omega)
                          have uc := fun u1 u2 W (q1 : IsInt W u1 (x1 * y1)) (q2 : IsInt W u2 (x2 * y2)) => subI_c u1 u2 (x1 * y1) (x2 * y2) (kb K t + kb K t) W q1 q2 HB1.out.1 HB1.out.2 (by omega)
                          have HSJ := Lib.hid (show ∀ W, Below wj.heap.size wj W → W.cell? ⟨pb, 0, none⟩ = some (.bool pn1) ∧ W.cell? ⟨pb, 1, none⟩ = some (.slice pa1 pl1 pc1) ∧ W.cell? ⟨fb, 0, none⟩ = some (.bool fn1) ∧ W.cell? ⟨fb, 1, none⟩ = some (.slice fa1 fl1 fc1) ∧ W.cell? ⟨B, i', none⟩ = some (.slice (some ⟨bs6 i', 0, none⟩) m ci2) ∧ W.cell? ⟨B, k, none⟩ = some (.slice (some ⟨bs6 k, 0, none⟩) m ck2) ∧ W.cell? ⟨bs6 i', c * 2, none⟩ = some (.bool en) ∧ W.cell? ⟨bs6 i', c * 2 + 1, none⟩ = some (.slice ea el ec) ∧ W.cell? ⟨bs6 k, c * 2, none⟩ = some (.bool hn') ∧ W.cell? ⟨bs6 k, c * 2 + 1, none⟩ = some (.slice ha' hl' hc') from fun W q => ⟨bkeep q p0, bkeep q p1, bkeep q f0, bkeep q f1, bkeep q hci2, bkeep q hck2, bkeep q e0, bkeep q e1, bkeep q h0, bkeep q h1⟩)
                          have hkI2 : (k : Int) < (g.length : Int) := by omega
                          clear hx1 hy1 hx2 hy2 v1 v2 pI fI eI hI b1 b2 b3 b4 p0 p1 f0 f1 hci2 hck2 e0 e1 h0 h1
                          obtain ⟨p0, p1, f0, f1, hci2, hck2, e0, e1, h0, h1⟩ := HSJ.out wj (Below.refl _ _)
                          have zp := cell_lt p0
                          have zf := cell_lt f0
                          have zBj := cell_lt hci2
                          have zej := cell_lt e0
                          have zhj := cell_lt h0
                          have hBj := Below.refl wj.heap.size wj
                          go_wp2
                          go_cut [20] (fun s20 wx => ∃ xb, s20 = .pointer (some ⟨xb, 0, none⟩) ∧ Hid (VarI xb (x1 * y1 - x2 * y2) wx) ∧ Below wj.heap.size wj wx ∧ wj.heap.size ≤ xb)
                          case first =>
                            go_region_held3 (fun W => W.cell? ⟨pb, 0, none⟩ = some (.bool pn1) ∧ W.cell? ⟨pb, 1, none⟩ = some (.slice pa1 pl1 pc1) ∧ W.cell? ⟨fb, 0, none⟩ = some (.bool fn1) ∧ W.cell? ⟨fb, 1, none⟩ = some (.slice fa1 fl1 fc1) ∧ W.cell? ⟨B, i', none⟩ = some (.slice (some ⟨bs6 i', 0, none⟩) m ci2) ∧ W.cell? ⟨B, k, none⟩ = some (.slice (some ⟨bs6 k, 0, none⟩) m ck2) ∧ W.cell? ⟨bs6 i', c * 2, none⟩ = some (.bool en) ∧ W.cell? ⟨bs6 i', c * 2 + 1, none⟩ = some (.slice ea el ec) ∧ W.cell? ⟨bs6 k, c * 2, none⟩ = some (.bool hn') ∧ W.cell? ⟨bs6 k, c * 2 + 1, none⟩ = some (.slice ha' hl' hc'))
                              (first | (refine HSJ.out _ ?_; (repeat (first|exact bzR _ _|exact hBj|refine bzD ?_|refine bzN ?_|refine bzS ?_|refine bzA ?_)); done) | fail)
                              (first
                              | (go_at_call 51; (with_reducible show Calls _ _ #[.agg #[.bool pn1, .slice pa1 pl1 pc1], _] (World.drew (World.alloc _ _)) _); refine (mc1 _ ?_).mono ?_; (repeat (first|exact bzR _ _|exact hBj|refine bzD ?_|refine bzN ?_|refine bzS ?_|refine bzA ?_)); rintro e w11 ⟨⟨v11, rfl, hv11⟩, hb11⟩; have hyl : wj.heap.size ≤ wj.heap.size := Nat.le_refl _; have hb11a : Below (wj.alloc (.cells #[.bool false, .slice none 0 0] 50)).heap.size (wj.alloc (.cells #[.bool false, .slice none 0 0] 50)) w11 := bthen (Below.refl _ _).drew hb11; have HY := Lib.hid (show typOf w11 wj.heap.size = some 50 ∧ w11.cell? ⟨wj.heap.size, 0, none⟩ = some (.bool false) ∧ w11.cell? ⟨wj.heap.size, 1, none⟩ = some (.slice none 0 0) ∧ w11.frozen? ⟨wj.heap.size, 0, none⟩ = false ∧ w11.frozen? ⟨wj.heap.size, 1, none⟩ = false from ⟨typ_keep (typ_fresh rfl) hb11a, bkeep hb11a (cell_new rfl rfl), bkeep hb11a (cell_new rfl rfl), bkeepf hb11a (v := .bool false) (cell_new rfl rfl) (by simp [go_sem]), bkeepf hb11a (v := .slice none 0 0) (cell_new rfl rfl) (by simp [go_sem])⟩); obtain ⟨yt, y0, y1, y0f, y1f⟩ := HY.out; (have hBd : Below wj.heap.size wj w11 := bthen (by repeat (first|exact bzR _ _|exact hBj|refine bzD ?_|refine bzN ?_|refine bzS ?_|refine bzA ?_)) hb11; clear hBj; have hBj := hBd; clear hBd); have HV11 := Lib.hid hv11; obtain ⟨n11, a11, c11, l11, rfl, -⟩ := hv11; unfold iv at *)
                              | (go_at_call 51; (with_reducible show Calls _ _ #[.agg #[.bool pn1, .slice pa1 pl1 pc1], _] _ _); refine (mc1 _ ?_).mono ?_; (repeat (first|exact bzR _ _|exact hBj|refine bzD ?_|refine bzN ?_|refine bzS ?_|refine bzA ?_)); rintro e w11 ⟨⟨v11, rfl, hv11⟩, hb11⟩; (have hBd : Below wj.heap.size wj w11 := bthen (by repeat (first|exact bzR _ _|exact hBj|refine bzD ?_|refine bzN ?_|refine bzS ?_|refine bzA ?_)) hb11; clear hBj; have hBj := hBd; clear hBd); have HV11 := Lib.hid hv11; obtain ⟨n11, a11, c11, l11, rfl, -⟩ := hv11; unfold iv at *)
                              | (go_at_call 51; (with_reducible show Calls _ _ #[.agg #[.bool fn1, .slice fa1 fl1 fc1], _] (World.alloc _ _) _); refine (mc2 _ ?_).mono ?_; (repeat (first|exact bzR _ _|exact hBj|refine bzD ?_|refine bzN ?_|refine bzS ?_|refine bzA ?_)); rintro e w12 ⟨⟨v12, rfl, hv12⟩, hb12⟩; have hyl : wj.heap.size ≤ w11.heap.size := hBj.size; have HY := Lib.hid (show typOf w12 w11.heap.size = some 50 ∧ w12.cell? ⟨w11.heap.size, 0, none⟩ = some (.bool false) ∧ w12.cell? ⟨w11.heap.size, 1, none⟩ = some (.slice none 0 0) ∧ w12.frozen? ⟨w11.heap.size, 0, none⟩ = false ∧ w12.frozen? ⟨w11.heap.size, 1, none⟩ = false from ⟨typ_keep (typ_fresh rfl) hb12, bkeep hb12 (cell_new rfl rfl), bkeep hb12 (cell_new rfl rfl), bkeepf hb12 (v := .bool false) (cell_new rfl rfl) (by simp [go_sem]), bkeepf hb12 (v := .slice none 0 0) (cell_new rfl rfl) (by simp [go_sem])⟩); obtain ⟨yt, y0, y1, y0f, y1f⟩ := HY.out; have HV13 := Lib.hid (HV11.out.keep (by refine bthen ?_ hb12; have hBy := Below.refl w11.heap.size w11; (repeat (first|exact bzR _ _|exact hBy|refine bzD ?_|refine bzN ?_|refine bzS ?_|refine bzA ?_)))); (have hBd : Below wj.heap.size wj w12 := bthen (by repeat (first|exact bzR _ _|exact hBj|refine bzD ?_|refine bzN ?_|refine bzS ?_|refine bzA ?_)) hb12; clear hBj; have hBj := hBd; clear hBd); have HV12 := Lib.hid hv12; obtain ⟨n12, a12, c12, l12, rfl, -⟩ := hv12; unfold iv at *)
                              | (go_at_call 51; (with_reducible show Calls _ _ #[.agg #[.bool fn1, .slice fa1 fl1 fc1], _] _ _); refine (mc2 _ ?_).mono ?_; (repeat (first|exact bzR _ _|exact hBj|refine bzD ?_|refine bzN ?_|refine bzS ?_|refine bzA ?_)); rintro e w12 ⟨⟨v12, rfl, hv12⟩, hb12⟩; (try (have y0f := bkeepf hb12 y0 y0f; have y1f := bkeepf hb12 y1 y1f; have y0 := bkeep hb12 y0; have y1 := bkeep hb12 y1; have yt := typ_keep yt hb12)); have HV13 := Lib.hid (HV11.out.keep (by refine bthen ?_ hb12; have hBy := Below.refl w11.heap.size w11; (repeat (first|exact bzR _ _|exact hBy|refine bzD ?_|refine bzN ?_|refine bzS ?_|refine bzA ?_)))); (have hBd : Below wj.heap.size wj w12 := bthen (by repeat (first|exact bzR _ _|exact hBj|refine bzD ?_|refine bzN ?_|refine bzS ?_|refine bzA ?_)) hb12; clear hBj; have hBj := hBd; clear hBd); have HV12 := Lib.hid hv12; obtain ⟨n12, a12, c12, l12, rfl, -⟩ := hv12; unfold iv at *)
                              | (go_at_call 211; (with_reducible show Calls _ _ _ (World.alloc _ _) _); refine (uc _ _ _ (HV13.out.keep ?_) (HV12.out.keep ?_)).mono ?_; (have hBy := Below.refl w12.heap.size w12; (repeat (first|exact bzR _ _|exact hBy|refine bzD ?_|refine bzN ?_|refine bzS ?_|refine bzA ?_))); (have hBy := Below.refl w12.heap.size w12; (repeat (first|exact bzR _ _|exact hBy|refine bzD ?_|refine bzN ?_|refine bzS ?_|refine bzA ?_))); rintro e w14 ⟨⟨v14, rfl, hv14⟩, hb14⟩; have hyl : wj.heap.size ≤ w12.heap.size := hBj.size; have HY := Lib.hid (show typOf w14 w12.heap.size = some 50 ∧ w14.cell? ⟨w12.heap.size, 0, none⟩ = some (.bool false) ∧ w14.cell? ⟨w12.heap.size, 1, none⟩ = some (.slice none 0 0) ∧ w14.frozen? ⟨w12.heap.size, 0, none⟩ = false ∧ w14.frozen? ⟨w12.heap.size, 1, none⟩ = false from ⟨typ_keep (typ_fresh rfl) hb14, bkeep hb14 (cell_new rfl rfl), bkeep hb14 (cell_new rfl rfl), bkeepf hb14 (v := .bool false) (cell_new rfl rfl) (by simp [go_sem]), bkeepf hb14 (v := .slice none 0 0) (cell_new rfl rfl) (by simp [go_sem])⟩); obtain ⟨yt, y0, y1, y0f, y1f⟩ := HY.out; (have hBd : Below wj.heap.size wj w14 := bthen (by repeat (first|exact bzR _ _|exact hBj|refine bzD ?_|refine bzN ?_|refine bzS ?_|refine bzA ?_)) hb14; clear hBj; have hBj := hBd; clear hBd); have HV14 := Lib.hid hv14; obtain ⟨n14, a14, c14, l14, rfl, -⟩ := hv14; unfold iv at *)
                              | (go_at_call 211; refine (uc _ _ _ (HV13.out.keep ?_) (HV12.out.keep ?_)).mono ?_; (have hBy := Below.refl w12.heap.size w12; (repeat (first|exact bzR _ _|exact hBy|refine bzD ?_|refine bzN ?_|refine bzS ?_|refine bzA ?_))); (have hBy := Below.refl w12.heap.size w12; (repeat (first|exact bzR _ _|exact hBy|refine bzD ?_|refine bzN ?_|refine bzS ?_|refine bzA ?_))); rintro e w14 ⟨⟨v14, rfl, hv14⟩, hb14⟩; (try (have y0f := bkeepf hb14 y0 y0f; have y1f := bkeepf hb14 y1 y1f; have y0 := bkeep hb14 y0; have y1 := bkeep hb14 y1; have yt := typ_keep yt hb14)); (have hBd : Below wj.heap.size wj w14 := bthen (by repeat (first|exact bzR _ _|exact hBj|refine bzD ?_|refine bzN ?_|refine bzS ?_|refine bzA ?_)) hb14; clear hBj; have hBj := hBd; clear hBd); have HV14 := Lib.hid hv14; obtain ⟨n14, a14, c14, l14, rfl, -⟩ := hv14; unfold iv at *)
                              | fail)
                            all_goals
                              go_wp2_with fail
                              go_meet
                              first
                              | exact ⟨_, rfl, Lib.hid (VarI.put (show VarI _ 0 _ from ⟨yt, false, none, 0, 0, y0, y1, y0f, y1f, isInt_zero _⟩) HV14.out), bset (bset hBj hyl _) hyl _, hyl⟩
                              | exact ⟨_, rfl, Lib.hid ⟨typ_fresh rfl, n14, a14, l14.length, c14, cell_new rfl rfl, cell_new rfl rfl, by simp [go_sem], by simp [go_sem], HV14.out.keep (bal (Below.refl _ _) _)⟩, bal hBj _, hBj.size⟩
                          case rest =>
                            obtain ⟨xb, rfl, hX, hbx, hxb⟩ := hcut
                            clear mc1 mc2 uc HSJ p0 p1 f0 f1 hci2 hck2 e0 e1 h0 h1 zp zf zBj zej zhj hBj HB1 HBX HII
                            have HRx := Lib.hid (hRj.out.keep hbx)
                            have HLx := Lib.hid (HLj.out.keep hbx)
                            obtain ⟨-, xn, xa, xl, xc, x0, x1', -, -, xI⟩ := hX.out
                            obtain ⟨-, ln, la, ll, lc', l0, l1, -, -, lI⟩ := HLx.out
                            obtain ⟨ci2, hci2⟩ := HRx.out.cell i' hin'
                            obtain ⟨en, ea, el, ec, e0, e1, -⟩ := (HRx.out.num i' hin').at0 hcm
                            have e0f := (HRx.out.fr i' hin').2 (c * 2)
                            have e1f := (HRx.out.fr i' hin').2 (c * 2 + 1)
                            have HXI := Lib.hid (And.intro xI lI)
                            have HBXX := Lib.hid hBXX
                            have dc := fun W (q : Below wc.heap.size wc W) => divmod_c (.agg #[.bool xn, .slice xa xl xc]) (.agg #[.bool ln, .slice la ll lc']) (x1 * y1 - x2 * y2) s.last (kb K t + kb K t + 1) W (HXI.out.1.keep q) (HXI.out.2.keep q) HBXX.out (HBS.out.2.2.mono (by omega)) (by omega) HBS.out.1
                            rw [← HNEW.out] at dc
                            have HSX := Lib.hid (show ∀ W, Below wc.heap.size wc W → W.cell? ⟨B, i', none⟩ = some (.slice (some ⟨bs6 i', 0, none⟩) m ci2) ∧ W.cell? ⟨xb, 0, none⟩ = some (.bool xn) ∧ W.cell? ⟨xb, 1, none⟩ = some (.slice xa xl xc) ∧ W.cell? ⟨lb, 0, none⟩ = some (.bool ln) ∧ W.cell? ⟨lb, 1, none⟩ = some (.slice la ll lc') from fun W q => ⟨bkeep q hci2, bkeep q x0, bkeep q x1', bkeep q l0, bkeep q l1⟩)
                            have nB : bs6 i' ≠ B := HRx.out.neB hin'
                            have nx := ne_x (typ_lt (hRj.out.ty i' hin')) hxb
                            have nl := ne_x (HRx.out.hib i' hin') htl
                            have HSXF := Lib.hid (fun W o v (q : Below wc.heap.size wc W) => five_far (p := ⟨bs6 i', o, none⟩) v (HSX.out W q) (addr_ne nB) (addr_ne nx) (addr_ne nx) (addr_ne nl) (addr_ne nl))
                            have HSXG := Lib.hid (fun W o v o2 v2 (q : Below wc.heap.size wc W) => five_far (p := ⟨bs6 i', o2, none⟩) v2 (HSXF.out W o v q) (addr_ne nB) (addr_ne nx) (addr_ne nx) (addr_ne nl) (addr_ne nl))
                            clear nB nx nl
                            have zx := cell_lt x0
                            have zl := cell_lt l0
                            have zB := cell_lt hci2
                            have ze := cell_lt e0
                            have hBc := Below.refl wc.heap.size wc
                            clear xI lI
                            go_wp2
                            go_region_held3 (fun W => W.cell? ⟨B, i', none⟩ = some (.slice (some ⟨bs6 i', 0, none⟩) m ci2) ∧ W.cell? ⟨xb, 0, none⟩ = some (.bool xn) ∧ W.cell? ⟨xb, 1, none⟩ = some (.slice xa xl xc) ∧ W.cell? ⟨lb, 0, none⟩ = some (.bool ln) ∧ W.cell? ⟨lb, 1, none⟩ = some (.slice la ll lc'))
                              (first | ((with_reducible refine HSX.out _ ?_); (repeat (first | exact Below.refl _ _ | exact hBc | refine Below.drew ?_ | refine below_drewN ?_ _ | refine bal ?_ _)); done) | ((with_reducible refine HSXF.out _ _ _ ?_); (repeat (first | exact Below.refl _ _ | exact hBc | refine Below.drew ?_ | refine below_drewN ?_ _ | refine bal ?_ _)); done) | ((with_reducible refine HSXG.out _ _ _ _ _ ?_); (repeat (first | exact Below.refl _ _ | exact hBc | refine Below.drew ?_ | refine below_drewN ?_ _ | refine bal ?_ _)); done) | fail)
                              (first
                              | (go_at_call 163; refine (dc _ ?_).mono ?_; (repeat (first|exact bzR _ _|exact hBc|refine bzD ?_|refine bzN ?_|refine bzS ?_|refine bzA ?_)); rintro e w16 ⟨⟨u16, r16, rfl, hu16, hr16⟩, hb16⟩; (have hBd : Below wc.heap.size wc w16 := bthen (by repeat (first|exact bzR _ _|exact hBc|refine bzD ?_|refine bzN ?_|refine bzS ?_|refine bzA ?_)) hb16; clear hBc; have hBc := hBd; clear hBd); have HU16 := Lib.hid hu16; obtain ⟨n16, a16, c16, l16, rfl, -⟩ := hu16; obtain ⟨n17, a17, c17, l17, rfl, -⟩ := hr16; unfold iv at *; have g0 := bkeep hBc e0; have g1 := bkeep hBc e1; have g0f := bkeepf hBc e0 e0f; have g1f := bkeepf hBc e1 e1f; have zg := cell_lt g0)
                              | fail)
                            all_goals
                              have HRz := Lib.hid (HRx.out.keep hBc)
                              have hOz := (hOj.below hbx).below hBc
                              have HRy := Lib.hid (HRz.out.put hin' hcm HU16.out)
                              rw [gJ_put] at HRy
                              clear HRz dc HSX HXI HBXX HNEW HRx HLx hX hci2 x0 x1' l0 l1 e0 e1 e0f e1f
                              go_wp2
                              exact ⟨⟨c + 1, hcm, by go_num, (hOz.set (p := ⟨bs6 i', c * 2, none⟩) (fun _ => ⟨i', hin', rfl⟩) _).set (p := ⟨bs6 i', c * 2 + 1, none⟩) (fun _ => ⟨i', hin', rfl⟩) _, HRy⟩, meas hcm (by go_num) rfl⟩
                        · obtain rfl : c = m := by omega
                          have hcI : ¬ (c : Int) < (c : Int) := by omega
                          have HRw := Lib.hid (hRj.out.congr fun r c' _ hc' => gJ_end g6 k t s.last hki'.out hc')
                          have hOw := hO8.trans hOj
                          clear hRj
                          go_wp2
                          exact ⟨⟨i' + 1, hin', by go_num, Lib.hid (Nat.le_succ_of_le hki'.out), hOw, HRw⟩, meas hin' (by go_num) rfl⟩
                    · obtain rfl : i' = g.length := by omega
                      have hnI : ¬ (g.length : Int) < (g.length : Int) := by omega
                      have HLi := Lib.hid ((Kp.out (S := fun t => t ≠ 50) hOi (fun q t hq ht => by obtain ⟨r, hr1, rfl⟩ := hq; rw [HR7.out.ty r hr1] at ht; cases ht; exact fun hh => hh rfl)).lim (by decide))
                      have HPi := Lib.hid (HPV.out.out hOi (HNXX.out pb (by omega)) HLi.out)
                      have HSi := Lib.hid (HS7.out.rowsOut HR7.out hOi hRi.out hwb htl)
                      obtain ⟨-, pn1, pa1, pl1, pc1, p0, p1, -, -, pI⟩ := HPi.out
                      obtain ⟨-, ln, la, ll, lc', l0, l1, l0f, l1f, -⟩ := HSi.out.last
                      have HSl := Lib.hid (HSi.out.setLast pI hwb htl hs1)
                      have zl := cell_lt l0
                      have zp := cell_lt p0
                      clear pI hRi HPi HSi HLi hOi
                      go_wp2_with (at_builtin; go_loud (refine appL elInts prs_pint (fun h => h) (by rfl) (by rfl) (HSl.out.piv.below prs_pint (bal (Below.refl _ _) _)) (show PInt _ (.int .i64 (t : Nat)) t from rfl) (by rfl) (by rfl) (cell_new (by simp) rfl) (by rw [HKK.out]; omega) (by rw [HKK.out]; unfold maxLen; omega) ?_))
                      intro v9 w9 hO9 hk9
                      have HE9 := Lib.hid (((HSl.out.keep (bal (Below.refl _ _) _)).pivots hk9 hO9).congr (s' := Det.elR g.length (gat g) (t + 1)) (fun r c hr hc => by rw [HFG.out r c]; exact gI_end g6 k t s.last hr) HFP.out HFL.out)
                      clear hO9 hk9 HSl
                      go_wp2
                      exact ⟨⟨t + 1, htC, by go_num, by rw [HSG.out], HE9⟩, meas htC (by go_num) rfl⟩
                · have hneI : ((i : Int) != (k : Int)) = true := by simp; omega
                  obtain ⟨ci, hci⟩ := HR5.out.cell i hin
                  obtain ⟨ck, hck⟩ := HR5.out.cell k hkn'
                  have hfi := HR5.out.fB.2 i
                  have hfk := HR5.out.fB.2 k
                  have zB := cell_lt hci
                  have hnik : ¬ k = i := fun e => hik e.symm
                  have hkI : (k : Int) < (g.length : Int) := by omega
                  have HSW := Lib.hid (HS5.out.swap HR5.out hwb htl hin hkn' hci hck)
                  have HRS := Lib.hid (HR5.out.swap hin hkn' hci hck)
                  go_wp2
                  go_region
                  all_goals
                    have hdr := (Below.refl ((w5.setCell ⟨B, i, none⟩ (.slice (some ⟨bs k, 0, none⟩) m ck)).setCell ⟨B, k, none⟩ (.slice (some ⟨bs i, 0, none⟩) m ci)).heap.size ((w5.setCell ⟨B, i, none⟩ (.slice (some ⟨bs k, 0, none⟩) m ck)).setCell ⟨B, k, none⟩ (.slice (some ⟨bs i, 0, none⟩) m ci))).drew
                    have HS6 := Lib.hid (HSW.out.keep hdr)
                    have HR6 := Lib.hid (HRS.out.keep hdr)
                    obtain ⟨w6, hw6⟩ : ∃ w6, ((w5.setCell ⟨B, i, none⟩ (.slice (some ⟨bs k, 0, none⟩) m ck)).setCell ⟨B, k, none⟩ (.slice (some ⟨bs i, 0, none⟩) m ci)).drew = w6 := ⟨_, rfl⟩
                    rw [hw6] at HS6 HR6 ⊢
                    obtain ⟨bs6, hbs6⟩ : ∃ b, (fun r => if r = k then bs i else if r = i then bs k else bs r) = b := ⟨_, rfl⟩
                    rw [hbs6] at HR6
                    obtain ⟨g6, hg6⟩ : ∃ g6, Det.swp s.g i k = g6 := ⟨_, rfl⟩
                    rw [hg6] at HBG HST HR6 HS6
                    have HFG := Lib.hid (show ∀ r c, (Det.elR g.length (gat g) (t + 1)).g r c = if k < r then Det.elNew g6 k t s.last r c else g6 r c from fun r c => by rw [HNX.out, HST.out])
                    have HFP := Lib.hid (show s.p ++ [t] = (Det.elR g.length (gat g) (t + 1)).p from by rw [HNX.out, HST.out])
                    have HFL := Lib.hid (show g6 k t = (Det.elR g.length (gat g) (t + 1)).last from by rw [HNX.out, HST.out, ← hg6]; show Det.swp s.g i k k t = s.g i t; unfold Det.swp; simp [hnik])
                    have HSG := Lib.hid (show - s.sign = (Det.elR g.length (gat g) (t + 1)).sign from by rw [HNX.out, HST.out]; show _ = if i = k then s.sign else - s.sign; rw [if_neg hik])
                    have hws : wrap64 (-s.sign) = -s.sign := by rcases HSN.out with e | e <;> rw [e] <;> first | rfl | decide | simp [wrap64]
                    clear HS5 HR5 HSW HRS hdr hw6 hbs6 hci hck hfi hfk zB HST HNX hg6 hik hnik
                    have HR6' := HR6.out
                    obtain ⟨ck, hck⟩ := HR6.out.cell k hkn'
                    obtain ⟨pn, pa', pl, pcp, e0, e1, eI⟩ := (HR6.out.num k hkn').at0 (show t < m by omega)
                    have htm : (t : Int) < (m : Int) := by omega
                    have hkI : (k : Int) < (g.length : Int) := by omega
                    have HPI := Lib.hid eI
                    have zB6 := cell_lt hck
                    have ze6 := cell_lt e0
                    have hB6 := Below.refl w6.heap.size w6
                    clear eI HR6'
                    go_wp2
                    (try rw [hws]); clear hws
                    refine wp_name fun w7 hW7 => ?_
                    have hb7 : Below w6.heap.size w6 w7 := by rw [hW7]; repeat (first|exact bzR _ _|exact hB6|refine bzD ?_|refine bzN ?_|refine bzS ?_|refine bzA ?_)
                    have HPV := Lib.hid (show VarI w6.heap.size (g6 k t) w7 from by rw [hW7]; exact ⟨typ_fresh rfl, pn, pa', pl, pcp, by simp [go_sem], by simp [go_sem], by simp [go_sem], by simp [go_sem], HPI.out.keep (bal (Below.refl _ _) _)⟩)
                    have HS7 := Lib.hid (HS6.out.keep hb7)
                    have HR7 := Lib.hid (HR6.out.keep hb7)
                    have hlb6 : lb < w6.heap.size := by have := HS6.out.last.1; exact typ_lt this
                    obtain ⟨pb, hpb⟩ : ∃ b, w6.heap.size = b := ⟨_, rfl⟩
                    rw [hpb] at HPV hlb6
                    rw [hpb]
                    have hB77 := Below.refl w7.heap.size w7
                    clear hW7 hck e0 e1 hb7 hB6 HPI hpb zB6 ze6
                    have hnx : ∀ q, top ≤ q → ¬ ∃ r, r < g.length ∧ q = bs6 r := fun q hq ⟨r, h1, h2⟩ => by have := HR7.out.hib r h1; omega
                    have HNXX := Lib.hid hnx
                    clear hnx
                    go_loopw [17] (fun x wr => ∃ i' : Nat, i' ≤ g.length ∧ x = .int .i64 i' ∧ Hid (k + 1 ≤ i') ∧ Out (fun q => ∃ r, r < g.length ∧ q = bs6 r) w7 wr ∧ Hid (RowsW base top B g.length m wr bs6 (gI g6 k t s.last i'))) (fun x _ => g.length - (intOf x).toNat)
                    case atStart => exact ⟨k + 1, by omega, by go_num, Lib.hid (Nat.le_refl _), Out.refl _ _, Lib.hid (HR7.out.congr fun r c _ _ => by unfold gI; rw [if_neg (by omega)])⟩
                    case round =>
                      rename World => wi
                      obtain ⟨i', hi', rfl, hki', hOi, hRi⟩ := hrel
                      by_cases hin' : i' < g.length
                      · have hiI' : (i' : Int) < (g.length : Int) := by omega
                        obtain ⟨cf, hcf⟩ := hRi.out.cell i' hin'
                        obtain ⟨fn, fa, fl, fc, d0, d1, dI⟩ := (hRi.out.num i' hin').at0 (show t < m by omega)
                        have hgi : gI g6 k t s.last i' i' t = g6 i' t := by unfold gI; rw [if_neg (by omega)]
                        rw [hgi] at dI
                        have HDI := Lib.hid dI
                        have zBi := cell_lt hcf
                        have zdi := cell_lt d0
                        have hBi := Below.refl wi.heap.size wi
                        clear dI hgi
                        go_wp2
                        refine wp_name fun w8 hW8 => ?_
                        have hb8 : Below wi.heap.size wi w8 := by rw [hW8]; repeat (first|exact bzR _ _|exact hBi|refine bzD ?_|refine bzN ?_|refine bzS ?_|refine bzA ?_)
                        have HFV := Lib.hid (show VarI wi.heap.size (g6 i' t) w8 from by rw [hW8]; exact ⟨typ_fresh rfl, fn, fa, fl, fc, by simp [go_sem], by simp [go_sem], by simp [go_sem], by simp [go_sem], HDI.out.keep (bal (Below.refl _ _) _)⟩)
                        have hfb6 : pb < wi.heap.size := by have := HPV.out.1; have h2 := typ_lt this; have := hOi.size; omega
                        obtain ⟨fb, hfb⟩ : ∃ b, wi.heap.size = b := ⟨_, rfl⟩
                        rw [hfb] at HFV hfb6
                        rw [hfb]
                        have HR8 := Lib.hid (hRi.out.keep hb8)
                        have hO8 := hOi.below hb8
                        clear hW8 hcf d0 d1 HDI zBi zdi hBi hfb hb8
                        go_loopw [108] (fun x wr => ∃ c : Nat, c ≤ m ∧ x = .int .i64 c ∧ Out (fun q => ∃ r, r < g.length ∧ q = bs6 r) w8 wr ∧ Hid (RowsW base top B g.length m wr bs6 (gJ g6 k t s.last i' c))) (fun x _ => m - (intOf x).toNat)
                        case atStart => exact ⟨0, Nat.zero_le _, rfl, Out.refl _ _, Lib.hid (HR8.out.congr fun r c _ _ => by unfold gI gJ; by_cases h : k < r ∧ r < i' <;> simp [h])⟩
                        case round =>
                          rename World => wj
                          obtain ⟨c, hc, rfl, hOj, hRj⟩ := hrel
                          by_cases hcm : c < m
                          · have hcI : (c : Int) < (m : Int) := by omega
                            have hO7j := hO8.trans hOj
                            have HL7 := Lib.hid ((Kp.out (S := fun t => t ≠ 50) hO7j (fun q t hq ht => by obtain ⟨r, hr1, rfl⟩ := hq; rw [HR7.out.ty r hr1] at ht; cases ht; exact fun hh => hh rfl)).lim (by decide))
                            have HL8 := Lib.hid ((Kp.out (S := fun t => t ≠ 50) hOj (fun q t hq ht => by obtain ⟨r, hr1, rfl⟩ := hq; rw [HR8.out.ty r hr1] at ht; cases ht; exact fun hh => hh rfl)).lim (by decide))
                            have HPj := Lib.hid (HPV.out.out hO7j (HNXX.out pb (by omega)) HL7.out)
                            have HFj := Lib.hid (HFV.out.out hOj (HNXX.out fb (by omega)) HL8.out)
                            have HLj := Lib.hid (HS7.out.last.out hO7j (HNXX.out lb (by omega)) HL7.out)
                            obtain ⟨-, pn1, pa1, pl1, pc1, p0, p1, -, -, pI⟩ := HPj.out
                            obtain ⟨-, fn1, fa1, fl1, fc1, f0, f1, -, -, fI⟩ := HFj.out
                            obtain ⟨ci2, hci2⟩ := hRj.out.cell i' hin'
                            obtain ⟨ck2, hck2⟩ := hRj.out.cell k hkn'
                            obtain ⟨en, ea, el, ec, e0, e1, eI⟩ := (hRj.out.num i' hin').at0 hcm
                            obtain ⟨hn', ha', hl', hc', h0, h1, hI⟩ := (hRj.out.num k hkn').at0 hcm
                            have v1 : gJ g6 k t s.last i' c i' c = g6 i' c := by unfold gJ; rw [if_neg (by omega)]
                            have v2 : gJ g6 k t s.last i' c k c = g6 k c := by unfold gJ; rw [if_neg (by have := hki'.out; omega)]
                            rw [v1] at eI
                            rw [v2] at hI
                            have HII := Lib.hid (And.intro pI (And.intro fI (And.intro eI hI)))
                            have b1 := HBG.out k t hkn' (show t < m by omega)
                            have b2 := HBG.out i' c hin' hcm
                            have b3 := HBG.out i' t hin' (show t < m by omega)
                            have b4 := HBG.out k c hkn' hcm
                            have HNEW := Lib.hid (show Det.elNew g6 k t s.last i' c = (g6 k t * g6 i' c - g6 i' t * g6 k c) / s.last from rfl)
                            have hkbm : kb K t + kb K t + 1 ≤ 4294967296 := by
                              have := kb_mono K (show t + 1 ≤ C by omega)
                              rw [kb_succ] at this; omega
                            have HB1 := Lib.hid (And.intro (Bd.mul b1 b2) (Bd.mul b3 b4))
                            have hBXX := Bd.sub HB1.out.1 HB1.out.2
                            have HBX := Lib.hid (And.intro b1 (And.intro b2 (And.intro b3 b4)))
                            obtain ⟨x1, hx1⟩ : ∃ x, g6 k t = x := ⟨_, rfl⟩
                            obtain ⟨y1, hy1⟩ : ∃ x, g6 i' c = x := ⟨_, rfl⟩
                            obtain ⟨x2, hx2⟩ : ∃ x, g6 i' t = x := ⟨_, rfl⟩
                            obtain ⟨y2, hy2⟩ : ∃ x, g6 k c = x := ⟨_, rfl⟩
                            rw [hx1, hy1, hx2, hy2] at HNEW HB1 HBX hBXX
                            rw [hx1, hx2, hy1, hy2] at HII
                            have mc1 := fun W (q : Below wj.heap.size wj W) => mul_c (.agg #[.bool pn1, .slice pa1 pl1 pc1]) (.agg #[.bool en, .slice ea el ec]) x1 y1 (kb K t) (kb K t) W (HII.out.1.keep q) (HII.out.2.2.1.keep q) HBX.out.1 HBX.out.2.1 (by omega) (by omega)
                            have mc2 := fun W (q : Below wj.heap.size wj W) => mul_c (.agg #[.bool fn1, .slice fa1 fl1 fc1]) (.agg #[.bool hn', .slice ha' hl' hc']) x2 y2 (kb K t) (kb K t) W (HII.out.2.1.keep q) (HII.out.2.2.2.keep q) HBX.out.2.2.1 HBX.out.2.2.2 (by omega) (by omega)
                            have uc := fun u1 u2 W (q1 : IsInt W u1 (x1 * y1)) (q2 : IsInt W u2 (x2 * y2)) => subI_c u1 u2 (x1 * y1) (x2 * y2) (kb K t + kb K t) W q1 q2 HB1.out.1 HB1.out.2 (by omega)
                            have HSJ := Lib.hid (show ∀ W, Below wj.heap.size wj W → W.cell? ⟨pb, 0, none⟩ = some (.bool pn1) ∧ W.cell? ⟨pb, 1, none⟩ = some (.slice pa1 pl1 pc1) ∧ W.cell? ⟨fb, 0, none⟩ = some (.bool fn1) ∧ W.cell? ⟨fb, 1, none⟩ = some (.slice fa1 fl1 fc1) ∧ W.cell? ⟨B, i', none⟩ = some (.slice (some ⟨bs6 i', 0, none⟩) m ci2) ∧ W.cell? ⟨B, k, none⟩ = some (.slice (some ⟨bs6 k, 0, none⟩) m ck2) ∧ W.cell? ⟨bs6 i', c * 2, none⟩ = some (.bool en) ∧ W.cell? ⟨bs6 i', c * 2 + 1, none⟩ = some (.slice ea el ec) ∧ W.cell? ⟨bs6 k, c * 2, none⟩ = some (.bool hn') ∧ W.cell? ⟨bs6 k, c * 2 + 1, none⟩ = some (.slice ha' hl' hc') from fun W q => ⟨bkeep q p0, bkeep q p1, bkeep q f0, bkeep q f1, bkeep q hci2, bkeep q hck2, bkeep q e0, bkeep q e1, bkeep q h0, bkeep q h1⟩)
                            have hkI2 : (k : Int) < (g.length : Int) := by omega
                            clear hx1 hy1 hx2 hy2 v1 v2 pI fI eI hI b1 b2 b3 b4 p0 p1 f0 f1 hci2 hck2 e0 e1 h0 h1
                            obtain ⟨p0, p1, f0, f1, hci2, hck2, e0, e1, h0, h1⟩ := HSJ.out wj (Below.refl _ _)
                            have zp := cell_lt p0
                            have zf := cell_lt f0
                            have zBj := cell_lt hci2
                            have zej := cell_lt e0
                            have zhj := cell_lt h0
                            have hBj := Below.refl wj.heap.size wj
                            go_wp2
                            go_cut [20] (fun s20 wx => ∃ xb, s20 = .pointer (some ⟨xb, 0, none⟩) ∧ Hid (VarI xb (x1 * y1 - x2 * y2) wx) ∧ Below wj.heap.size wj wx ∧ wj.heap.size ≤ xb)
                            case first =>
                              go_region_held3 (fun W => W.cell? ⟨pb, 0, none⟩ = some (.bool pn1) ∧ W.cell? ⟨pb, 1, none⟩ = some (.slice pa1 pl1 pc1) ∧ W.cell? ⟨fb, 0, none⟩ = some (.bool fn1) ∧ W.cell? ⟨fb, 1, none⟩ = some (.slice fa1 fl1 fc1) ∧ W.cell? ⟨B, i', none⟩ = some (.slice (some ⟨bs6 i', 0, none⟩) m ci2) ∧ W.cell? ⟨B, k, none⟩ = some (.slice (some ⟨bs6 k, 0, none⟩) m ck2) ∧ W.cell? ⟨bs6 i', c * 2, none⟩ = some (.bool en) ∧ W.cell? ⟨bs6 i', c * 2 + 1, none⟩ = some (.slice ea el ec) ∧ W.cell? ⟨bs6 k, c * 2, none⟩ = some (.bool hn') ∧ W.cell? ⟨bs6 k, c * 2 + 1, none⟩ = some (.slice ha' hl' hc'))
                                (first | (refine HSJ.out _ ?_; (repeat (first|exact bzR _ _|exact hBj|refine bzD ?_|refine bzN ?_|refine bzS ?_|refine bzA ?_)); done) | fail)
                                (first
                                | (go_at_call 51; (with_reducible show Calls _ _ #[.agg #[.bool pn1, .slice pa1 pl1 pc1], _] (World.drew (World.alloc _ _)) _); refine (mc1 _ ?_).mono ?_; (repeat (first|exact bzR _ _|exact hBj|refine bzD ?_|refine bzN ?_|refine bzS ?_|refine bzA ?_)); rintro e w11 ⟨⟨v11, rfl, hv11⟩, hb11⟩; have hyl : wj.heap.size ≤ wj.heap.size := Nat.le_refl _; have hb11a : Below (wj.alloc (.cells #[.bool false, .slice none 0 0] 50)).heap.size (wj.alloc (.cells #[.bool false, .slice none 0 0] 50)) w11 := bthen (Below.refl _ _).drew hb11; have HY := Lib.hid (show typOf w11 wj.heap.size = some 50 ∧ w11.cell? ⟨wj.heap.size, 0, none⟩ = some (.bool false) ∧ w11.cell? ⟨wj.heap.size, 1, none⟩ = some (.slice none 0 0) ∧ w11.frozen? ⟨wj.heap.size, 0, none⟩ = false ∧ w11.frozen? ⟨wj.heap.size, 1, none⟩ = false from ⟨typ_keep (typ_fresh rfl) hb11a, bkeep hb11a (cell_new rfl rfl), bkeep hb11a (cell_new rfl rfl), bkeepf hb11a (v := .bool false) (cell_new rfl rfl) (by simp [go_sem]), bkeepf hb11a (v := .slice none 0 0) (cell_new rfl rfl) (by simp [go_sem])⟩); obtain ⟨yt, y0, y1, y0f, y1f⟩ := HY.out; (have hBd : Below wj.heap.size wj w11 := bthen (by repeat (first|exact bzR _ _|exact hBj|refine bzD ?_|refine bzN ?_|refine bzS ?_|refine bzA ?_)) hb11; clear hBj; have hBj := hBd; clear hBd); have HV11 := Lib.hid hv11; obtain ⟨n11, a11, c11, l11, rfl, -⟩ := hv11; unfold iv at *)
                                | (go_at_call 51; (with_reducible show Calls _ _ #[.agg #[.bool pn1, .slice pa1 pl1 pc1], _] _ _); refine (mc1 _ ?_).mono ?_; (repeat (first|exact bzR _ _|exact hBj|refine bzD ?_|refine bzN ?_|refine bzS ?_|refine bzA ?_)); rintro e w11 ⟨⟨v11, rfl, hv11⟩, hb11⟩; (have hBd : Below wj.heap.size wj w11 := bthen (by repeat (first|exact bzR _ _|exact hBj|refine bzD ?_|refine bzN ?_|refine bzS ?_|refine bzA ?_)) hb11; clear hBj; have hBj := hBd; clear hBd); have HV11 := Lib.hid hv11; obtain ⟨n11, a11, c11, l11, rfl, -⟩ := hv11; unfold iv at *)
                                | (go_at_call 51; (with_reducible show Calls _ _ #[.agg #[.bool fn1, .slice fa1 fl1 fc1], _] (World.alloc _ _) _); refine (mc2 _ ?_).mono ?_; (repeat (first|exact bzR _ _|exact hBj|refine bzD ?_|refine bzN ?_|refine bzS ?_|refine bzA ?_)); rintro e w12 ⟨⟨v12, rfl, hv12⟩, hb12⟩; have hyl : wj.heap.size ≤ w11.heap.size := hBj.size; have HY := Lib.hid (show typOf w12 w11.heap.size = some 50 ∧ w12.cell? ⟨w11.heap.size, 0, none⟩ = some (.bool false) ∧ w12.cell? ⟨w11.heap.size, 1, none⟩ = some (.slice none 0 0) ∧ w12.frozen? ⟨w11.heap.size, 0, none⟩ = false ∧ w12.frozen? ⟨w11.heap.size, 1, none⟩ = false from ⟨typ_keep (typ_fresh rfl) hb12, bkeep hb12 (cell_new rfl rfl), bkeep hb12 (cell_new rfl rfl), bkeepf hb12 (v := .bool false) (cell_new rfl rfl) (by simp [go_sem]), bkeepf hb12 (v := .slice none 0 0) (cell_new rfl rfl) (by simp [go_sem])⟩); obtain ⟨yt, y0, y1, y0f, y1f⟩ := HY.out; have HV13 := Lib.hid (HV11.out.keep (by refine bthen ?_ hb12; have hBy := Below.refl w11.heap.size w11; (repeat (first|exact bzR _ _|exact hBy|refine bzD ?_|refine bzN ?_|refine bzS ?_|refine bzA ?_)))); (have hBd : Below wj.heap.size wj w12 := bthen (by repeat (first|exact bzR _ _|exact hBj|refine bzD ?_|refine bzN ?_|refine bzS ?_|refine bzA ?_)) hb12; clear hBj; have hBj := hBd; clear hBd); have HV12 := Lib.hid hv12; obtain ⟨n12, a12, c12, l12, rfl, -⟩ := hv12; unfold iv at *)
                                | (go_at_call 51; (with_reducible show Calls _ _ #[.agg #[.bool fn1, .slice fa1 fl1 fc1], _] _ _); refine (mc2 _ ?_).mono ?_; (repeat (first|exact bzR _ _|exact hBj|refine bzD ?_|refine bzN ?_|refine bzS ?_|refine bzA ?_)); rintro e w12 ⟨⟨v12, rfl, hv12⟩, hb12⟩; (try (have y0f := bkeepf hb12 y0 y0f; have y1f := bkeepf hb12 y1 y1f; have y0 := bkeep hb12 y0; have y1 := bkeep hb12 y1; have yt := typ_keep yt hb12)); have HV13 := Lib.hid (HV11.out.keep (by refine bthen ?_ hb12; have hBy := Below.refl w11.heap.size w11; (repeat (first|exact bzR _ _|exact hBy|refine bzD ?_|refine bzN ?_|refine bzS ?_|refine bzA ?_)))); (have hBd : Below wj.heap.size wj w12 := bthen (by repeat (first|exact bzR _ _|exact hBj|refine bzD ?_|refine bzN ?_|refine bzS ?_|refine bzA ?_)) hb12; clear hBj; have hBj := hBd; clear hBd); have HV12 := Lib.hid hv12; obtain ⟨n12, a12, c12, l12, rfl, -⟩ := hv12; unfold iv at *)
                                | (go_at_call 211; (with_reducible show Calls _ _ _ (World.alloc _ _) _); refine (uc _ _ _ (HV13.out.keep ?_) (HV12.out.keep ?_)).mono ?_; (have hBy := Below.refl w12.heap.size w12; (repeat (first|exact bzR _ _|exact hBy|refine bzD ?_|refine bzN ?_|refine bzS ?_|refine bzA ?_))); (have hBy := Below.refl w12.heap.size w12; (repeat (first|exact bzR _ _|exact hBy|refine bzD ?_|refine bzN ?_|refine bzS ?_|refine bzA ?_))); rintro e w14 ⟨⟨v14, rfl, hv14⟩, hb14⟩; have hyl : wj.heap.size ≤ w12.heap.size := hBj.size; have HY := Lib.hid (show typOf w14 w12.heap.size = some 50 ∧ w14.cell? ⟨w12.heap.size, 0, none⟩ = some (.bool false) ∧ w14.cell? ⟨w12.heap.size, 1, none⟩ = some (.slice none 0 0) ∧ w14.frozen? ⟨w12.heap.size, 0, none⟩ = false ∧ w14.frozen? ⟨w12.heap.size, 1, none⟩ = false from ⟨typ_keep (typ_fresh rfl) hb14, bkeep hb14 (cell_new rfl rfl), bkeep hb14 (cell_new rfl rfl), bkeepf hb14 (v := .bool false) (cell_new rfl rfl) (by simp [go_sem]), bkeepf hb14 (v := .slice none 0 0) (cell_new rfl rfl) (by simp [go_sem])⟩); obtain ⟨yt, y0, y1, y0f, y1f⟩ := HY.out; (have hBd : Below wj.heap.size wj w14 := bthen (by repeat (first|exact bzR _ _|exact hBj|refine bzD ?_|refine bzN ?_|refine bzS ?_|refine bzA ?_)) hb14; clear hBj; have hBj := hBd; clear hBd); have HV14 := Lib.hid hv14; obtain ⟨n14, a14, c14, l14, rfl, -⟩ := hv14; unfold iv at *)
                                | (go_at_call 211; refine (uc _ _ _ (HV13.out.keep ?_) (HV12.out.keep ?_)).mono ?_; (have hBy := Below.refl w12.heap.size w12; (repeat (first|exact bzR _ _|exact hBy|refine bzD ?_|refine bzN ?_|refine bzS ?_|refine bzA ?_))); (have hBy := Below.refl w12.heap.size w12; (repeat (first|exact bzR _ _|exact hBy|refine bzD ?_|refine bzN ?_|refine bzS ?_|refine bzA ?_))); rintro e w14 ⟨⟨v14, rfl, hv14⟩, hb14⟩; (try (have y0f := bkeepf hb14 y0 y0f; have y1f := bkeepf hb14 y1 y1f; have y0 := bkeep hb14 y0; have y1 := bkeep hb14 y1; have yt := typ_keep yt hb14)); (have hBd : Below wj.heap.size wj w14 := bthen (by repeat (first|exact bzR _ _|exact hBj|refine bzD ?_|refine bzN ?_|refine bzS ?_|refine bzA ?_)) hb14; clear hBj; have hBj := hBd; clear hBd); have HV14 := Lib.hid hv14; obtain ⟨n14, a14, c14, l14, rfl, -⟩ := hv14; unfold iv at *)
                                | fail)
                              all_goals
                                go_wp2_with fail
                                go_meet
                                first
                                | exact ⟨_, rfl, Lib.hid (VarI.put (show VarI _ 0 _ from ⟨yt, false, none, 0, 0, y0, y1, y0f, y1f, isInt_zero _⟩) HV14.out), bset (bset hBj hyl _) hyl _, hyl⟩
                                | exact ⟨_, rfl, Lib.hid ⟨typ_fresh rfl, n14, a14, l14.length, c14, cell_new rfl rfl, cell_new rfl rfl, by simp [go_sem], by simp [go_sem], HV14.out.keep (bal (Below.refl _ _) _)⟩, bal hBj _, hBj.size⟩
                            case rest =>
                              obtain ⟨xb, rfl, hX, hbx, hxb⟩ := hcut
                              clear mc1 mc2 uc HSJ p0 p1 f0 f1 hci2 hck2 e0 e1 h0 h1 zp zf zBj zej zhj hBj HB1 HBX HII
                              have HRx := Lib.hid (hRj.out.keep hbx)
                              have HLx := Lib.hid (HLj.out.keep hbx)
                              obtain ⟨-, xn, xa, xl, xc, x0, x1', -, -, xI⟩ := hX.out
                              obtain ⟨-, ln, la, ll, lc', l0, l1, -, -, lI⟩ := HLx.out
                              obtain ⟨ci2, hci2⟩ := HRx.out.cell i' hin'
                              obtain ⟨en, ea, el, ec, e0, e1, -⟩ := (HRx.out.num i' hin').at0 hcm
                              have e0f := (HRx.out.fr i' hin').2 (c * 2)
                              have e1f := (HRx.out.fr i' hin').2 (c * 2 + 1)
                              have HXI := Lib.hid (And.intro xI lI)
                              have HBXX := Lib.hid hBXX
                              have dc := fun W (q : Below wc.heap.size wc W) => divmod_c (.agg #[.bool xn, .slice xa xl xc]) (.agg #[.bool ln, .slice la ll lc']) (x1 * y1 - x2 * y2) s.last (kb K t + kb K t + 1) W (HXI.out.1.keep q) (HXI.out.2.keep q) HBXX.out (HBS.out.2.2.mono (by omega)) (by omega) HBS.out.1
                              rw [← HNEW.out] at dc
                              have HSX := Lib.hid (show ∀ W, Below wc.heap.size wc W → W.cell? ⟨B, i', none⟩ = some (.slice (some ⟨bs6 i', 0, none⟩) m ci2) ∧ W.cell? ⟨xb, 0, none⟩ = some (.bool xn) ∧ W.cell? ⟨xb, 1, none⟩ = some (.slice xa xl xc) ∧ W.cell? ⟨lb, 0, none⟩ = some (.bool ln) ∧ W.cell? ⟨lb, 1, none⟩ = some (.slice la ll lc') from fun W q => ⟨bkeep q hci2, bkeep q x0, bkeep q x1', bkeep q l0, bkeep q l1⟩)
                              have nB : bs6 i' ≠ B := HRx.out.neB hin'
                              have nx := ne_x (typ_lt (hRj.out.ty i' hin')) hxb
                              have nl := ne_x (HRx.out.hib i' hin') htl
                              have HSXF := Lib.hid (fun W o v (q : Below wc.heap.size wc W) => five_far (p := ⟨bs6 i', o, none⟩) v (HSX.out W q) (addr_ne nB) (addr_ne nx) (addr_ne nx) (addr_ne nl) (addr_ne nl))
                              have HSXG := Lib.hid (fun W o v o2 v2 (q : Below wc.heap.size wc W) => five_far (p := ⟨bs6 i', o2, none⟩) v2 (HSXF.out W o v q) (addr_ne nB) (addr_ne nx) (addr_ne nx) (addr_ne nl) (addr_ne nl))
                              clear nB nx nl
                              have zx := cell_lt x0
                              have zl := cell_lt l0
                              have zB := cell_lt hci2
                              have ze := cell_lt e0
                              have hBc := Below.refl wc.heap.size wc
                              clear xI lI
                              go_wp2
                              go_region_held3 (fun W => W.cell? ⟨B, i', none⟩ = some (.slice (some ⟨bs6 i', 0, none⟩) m ci2) ∧ W.cell? ⟨xb, 0, none⟩ = some (.bool xn) ∧ W.cell? ⟨xb, 1, none⟩ = some (.slice xa xl xc) ∧ W.cell? ⟨lb, 0, none⟩ = some (.bool ln) ∧ W.cell? ⟨lb, 1, none⟩ = some (.slice la ll lc'))
                                (first | ((with_reducible refine HSX.out _ ?_); (repeat (first | exact Below.refl _ _ | exact hBc | refine Below.drew ?_ | refine below_drewN ?_ _ | refine bal ?_ _)); done) | ((with_reducible refine HSXF.out _ _ _ ?_); (repeat (first | exact Below.refl _ _ | exact hBc | refine Below.drew ?_ | refine below_drewN ?_ _ | refine bal ?_ _)); done) | ((with_reducible refine HSXG.out _ _ _ _ _ ?_); (repeat (first | exact Below.refl _ _ | exact hBc | refine Below.drew ?_ | refine below_drewN ?_ _ | refine bal ?_ _)); done) | fail)
                                (first
                                | (go_at_call 163; refine (dc _ ?_).mono ?_; (repeat (first|exact bzR _ _|exact hBc|refine bzD ?_|refine bzN ?_|refine bzS ?_|refine bzA ?_)); rintro e w16 ⟨⟨u16, r16, rfl, hu16, hr16⟩, hb16⟩; (have hBd : Below wc.heap.size wc w16 := bthen (by repeat (first|exact bzR _ _|exact hBc|refine bzD ?_|refine bzN ?_|refine bzS ?_|refine bzA ?_)) hb16; clear hBc; have hBc := hBd; clear hBd); have HU16 := Lib.hid hu16; obtain ⟨n16, a16, c16, l16, rfl, -⟩ := hu16; obtain ⟨n17, a17, c17, l17, rfl, -⟩ := hr16; unfold iv at *; have g0 := bkeep hBc e0; have g1 := bkeep hBc e1; have g0f := bkeepf hBc e0 e0f; have g1f := bkeepf hBc e1 e1f; have zg := cell_lt g0)
                                | fail)
                              all_goals
                                have HRz := Lib.hid (HRx.out.keep hBc)
                                have hOz := (hOj.below hbx).below hBc
                                have HRy := Lib.hid (HRz.out.put hin' hcm HU16.out)
                                rw [gJ_put] at HRy
                                clear HRz dc HSX HXI HBXX HNEW HRx HLx hX hci2 x0 x1' l0 l1 e0 e1 e0f e1f
                                go_wp2
                                exact ⟨⟨c + 1, hcm, by go_num, (hOz.set (p := ⟨bs6 i', c * 2, none⟩) (fun _ => ⟨i', hin', rfl⟩) _).set (p := ⟨bs6 i', c * 2 + 1, none⟩) (fun _ => ⟨i', hin', rfl⟩) _, HRy⟩, meas hcm (by go_num) rfl⟩
                          · obtain rfl : c = m := by omega
                            have hcI : ¬ (c : Int) < (c : Int) := by omega
                            have HRw := Lib.hid (hRj.out.congr fun r c' _ hc' => gJ_end g6 k t s.last hki'.out hc')
                            have hOw := hO8.trans hOj
                            clear hRj
                            go_wp2
                            exact ⟨⟨i' + 1, hin', by go_num, Lib.hid (Nat.le_succ_of_le hki'.out), hOw, HRw⟩, meas hin' (by go_num) rfl⟩
                      · obtain rfl : i' = g.length := by omega
                        have hnI : ¬ (g.length : Int) < (g.length : Int) := by omega
                        have HLi := Lib.hid ((Kp.out (S := fun t => t ≠ 50) hOi (fun q t hq ht => by obtain ⟨r, hr1, rfl⟩ := hq; rw [HR7.out.ty r hr1] at ht; cases ht; exact fun hh => hh rfl)).lim (by decide))
                        have HPi := Lib.hid (HPV.out.out hOi (HNXX.out pb (by omega)) HLi.out)
                        have HSi := Lib.hid (HS7.out.rowsOut HR7.out hOi hRi.out hwb htl)
                        obtain ⟨-, pn1, pa1, pl1, pc1, p0, p1, -, -, pI⟩ := HPi.out
                        obtain ⟨-, ln, la, ll, lc', l0, l1, l0f, l1f, -⟩ := HSi.out.last
                        have HSl := Lib.hid (HSi.out.setLast pI hwb htl hs1)
                        have zl := cell_lt l0
                        have zp := cell_lt p0
                        clear pI hRi HPi HSi HLi hOi
                        go_wp2_with (at_builtin; go_loud (refine appL elInts prs_pint (fun h => h) (by rfl) (by rfl) (HSl.out.piv.below prs_pint (bal (Below.refl _ _) _)) (show PInt _ (.int .i64 (t : Nat)) t from rfl) (by rfl) (by rfl) (cell_new (by simp) rfl) (by rw [HKK.out]; omega) (by rw [HKK.out]; unfold maxLen; omega) ?_))
                        intro v9 w9 hO9 hk9
                        have HE9 := Lib.hid (((HSl.out.keep (bal (Below.refl _ _) _)).pivots hk9 hO9).congr (s' := Det.elR g.length (gat g) (t + 1)) (fun r c hr hc => by rw [HFG.out r c]; exact gI_end g6 k t s.last hr) HFP.out HFL.out)
                        clear hO9 hk9 HSl
                        go_wp2
                        exact ⟨⟨t + 1, htC, by go_num, by rw [HSG.out], HE9⟩, meas htC (by go_num) rfl⟩
            · obtain rfl : i = g.length := by omega
              have HNONE := Lib.hid (Det.elStep_none (s := s) (j := t) (by rw [HKK.out]; exact hkn) (fun r h1 h2 => hz.out.2 r (by rw [HKK.out] at h1; exact h1) h2))
              have HSQ := Lib.hid (hS.out.keep hbq)
              have HSG := Lib.hid (show s.sign = (Det.elR g.length (gat g) (t + 1)).sign by rw [HNX.out, HNONE.out])
              have hiI : ¬ (g.length : Int) < (g.length : Int) := by omega
              go_wp2
              exact ⟨⟨t + 1, by omega, by go_num, by rw [HSG.out], by rw [HNX.out, HNONE.out]; exact HSQ⟩, by simp [intOf]; omega⟩
        · obtain rfl : t = C := by omega
          have htI : ¬ (t : Int) < (t : Int) := by omega
          have hsgn := elR_sgn g.length (gat g) t
          have hbs := (elR_bd (n := g.length) (m := m) (K := K) hK1 (fun r c _ _ => HBD.out r c) t (by omega)).2
          obtain ⟨pa, pc, hpv⟩ := hS.out.piv.ex
          subst hpv
          obtain ⟨s, hs⟩ : ∃ s, Det.elR g.length (gat g) t = s := ⟨_, rfl⟩
          have HEQ := Lib.hid hs
          rw [hs] at hS hsgn hbs ⊢
          clear hs
          obtain ⟨k, hk⟩ : ∃ k, s.p.length = k := ⟨_, rfl⟩
          have HKK := Lib.hid hk
          rw [hk]
          clear hk
          obtain ⟨-, ln, la', ll, lc', l0, l1, -, -, lI⟩ := hS.out.last
          have zl := cell_lt l0
          have tc := fun W (q : Below wt.heap.size wt W) => times_c (.agg #[.bool ln, .slice la' ll lc']) s.last s.sign (kb K t) W (lI.keep q) hbs (by omega) (by rcases hsgn with e | e <;> rw [e] <;> decide) (by rcases hsgn with e | e <;> rw [e] <;> decide)
          have hBw := Below.refl wt.heap.size wt
          clear lI hbs hsgn
          go_wp2_with fail
          refine (tc _ (by repeat (first|exact bzR _ _|exact hBw|refine bzD ?_|refine bzN ?_|refine bzS ?_|refine bzA ?_))).mono ?_
          rintro e w5 ⟨⟨v5, rfl, hv5⟩, hb5⟩
          have hb5' : Below wt.heap.size wt w5 := bthen (by repeat (first|exact bzR _ _|exact hBw|refine bzD ?_|refine bzN ?_|refine bzS ?_|refine bzA ?_)) hb5
          have HV5 := Lib.hid hv5
          obtain ⟨n5, a5, c5, l5, rfl, -⟩ := hv5
          unfold iv at *
          clear tc
          obtain ⟨r0, r1, r0f, r1f⟩ := (hS.out.keep hb5').r
          have zr := cell_lt r0
          have hrt := (hS.out.keep hb5').rt
          have hbz : Below w.heap.size w ((w5.setCell ⟨w.heap.size, 0, none⟩ (.bool n5)).setCell ⟨w.heap.size, 1, none⟩ (.slice a5 l5.length c5)) := bset (bset (hS.out.keep hb5').bel (Nat.le_refl _) _) (Nat.le_refl _) _
          have hkz : Kp (fun t => t ≠ 50) w5 ((w5.setCell ⟨w.heap.size, 0, none⟩ (.bool n5)).setCell ⟨w.heap.size, 1, none⟩ (.slice a5 l5.length c5)) := (((Kp.refl _ w5).set (p := ⟨w.heap.size, 0, none⟩) (fun t ht' => by rw [hrt] at ht'; cases ht'; exact fun hh => hh rfl) _).set (p := ⟨w.heap.size, 1, none⟩) (fun t ht' => by rw [typ_set, hrt] at ht'; cases ht'; exact fun hh => hh rfl) _)
          have HPZ := Lib.hid ((hS.out.keep hb5').piv.kp prs_pint hkz (fun _ hf => hf.elim) (by decide) hbz).isL
          rw [HKK.out] at HPZ
          have HIZ := Lib.hid (HV5.out.put2 r0 r1 (.bool n5) (.slice a5 l5.length c5))
          have HBZ := Lib.hid hbz
          obtain ⟨la2, lc2, hlz⟩ : ∃ x y, Value.slice la g.length lc = .slice x g.length y := ⟨_, _, rfl⟩
          clear hbz hkz hS hrt HV5
          go_wp2
          rw [Exit.noGoto_ret]
          refine bodyPost_ret (v := .tuple #[.slice la g.length lc, .slice pa k pc, .agg #[.bool n5, .slice a5 l5.length c5]]) (by simp [results, Tryz.results156, go_sem, *]) rfl ?_
          unfold ElimPost
          rw [HEQ.out, HKK.out]
          exact ⟨⟨la, lc, pa, pc, _, rfl, HPZ.out, HIZ.out⟩, HBZ.out⟩
end Go.Proofs.YtbmaffijncapiaaGreatDoor

