/- Texts of this seat, laid together: EvB, EvC, EvE, NumT, VmG, VmH, Dec. Each opens with its own remark, which says what it proves, and under which conditions. -/
import Derived.Test.YtdllbdfchloijaaGreatDoorE10
import Derived.Test.YtdllbdfchloijaaGreatDoorE04
import Derived.Test.YtdllbdfchloijaaGreatDoorE13
import Derived.Deep.LoopGhost
import Derived.Deep.DeepCutAuto
import Derived.Test.YtdllbdfchloijaaGreatDoorE06
import Derived.Test.YtdllbdfchloijaaGreatDoorE03
import Derived.Test.YtdllbdfchloijaaGreatDoorE09
import Derived.Deep.DrawnRows
import Derived.Deep.RegionLaw
set_option linter.unusedVariables false
set_option linter.unusedSimpArgs false
/- eval: Program's add and scaled: a program in the making, to which instructions are added. -/
namespace Go.Proofs.YtdllbdfchloijaaGreatDoor
open Num
open Go.ChangeShapes Go.WideShapes Go.ChangeAt Go.RowKit
set_option linter.unusedVariables false
set_option linter.unusedSimpArgs false
theorem measE {N c : Nat} (h : c < N) {a b : Value} (ha : a = .int .i64 ((c + 1 : Nat) : Int)) (hb : b = .int .i64 (c : Nat)) : N - (intOf a).toNat < N - (intOf b).toNat := by
  subst ha hb
  simp [intOf]
  omega
section
variable {P : Program} {T E : TypeId} {size bytes : Nat} {ops : Array Oper} {rest : List Oper} {o : Oper} {a : Act} {Q : Exit → Act → World → Prop} {base : Nat} {wr : World} {v : Value} {n : Nat} {xs C : List Value} {t : TypeId} {s x : Operand}
/-- append of what lies in a new block, to a row that lies from base on -/
theorem app_litB (el : Elt P T E size bytes) (hgd : o.guard = none)
    (ho : o.op = .call { callee := .builtin .append, args := #[s, x], argTypes := #[T, T] }) (hO : wr.ownsRow base E size v n xs) (hbase : base ≤ wr.heap.size) (hs : a.eval s = v)
    {m c g : Nat} (hx : a.eval x = .slice (some ⟨g, 0, none⟩) m c) (hg : g = wr.heap.size) (hl : C.length = m * size) (h1 : ∀ u ∈ C, u.oneCell' = true) (hn : n + m ≤ 1099511627776)
    (h : ∀ v' w', w'.ownsRow base E size v' (n + m) (xs ++ C) → Kp (· ≠ E) wr w' → Below base wr w' → wpList P ops Q rest (a.put o.dst v') w') : wpList P ops Q (o :: rest) a (wr.alloc (.cells C.toArray t)) := by
  subst hg
  obtain ⟨i, z, hi, hz, hsize, hby, hzs⟩ := el.info
  have hb : (n + m) * bytes ≤ 1099511627776 * 128 := Nat.mul_le_mul hn el.small
  have hA : (wr.alloc (.cells C.toArray t)).ownsRow base E size v n xs := hO.alloc _
  refine wpList_append_own _ hgd s x T ho base E i z size bytes el.ht hi hz hsize hby hzs el.pos v n xs hs hA ⟨wr.heap.size, 0, none⟩ m c C hx hl (cells_new wr C t) h1 (by unfold maxLen; omega) (by omega) (by simp; omega) ?_
  intro v' w' hown hg _
  refine h v' w' hown (((Kp.refl _ wr).alloc _).grown hg fun q hg' t' ht hne => hne (by rw [own_typ' hA hg'] at ht; exact (Option.some.inj ht).symm)) ?_
  exact (((Out.refl (fun k => base ≤ k) wr).alloc _).grown hg fun k hk' _ => (hA.lt k hk').1).to_below (fun k hk _ h => by omega) hbase
end
theorem owns_ex {w : World} {base n size : Nat} {T : TypeId} {v : Value} {xs : List Value} (h : w.ownsRow base T size v n xs) : ∃ a c, v = .slice a n c := by
  rcases h.2 with ⟨rfl, rfl⟩ | ⟨g, c, _, rfl, _⟩
  · exact ⟨_, _, rfl⟩
  · exact ⟨_, _, rfl⟩
/-- a program in the making, in the block pb; its rows lie above -/
structure EvB (pb : Nat) (k R : Int) (L : List Ins) (O : List Int) (w : World) : Prop where
  ty : typOf w pb = some 27
  fr : Free w pb
  c0 : w.cell? ⟨pb, 0, none⟩ = some (.int .i64 k)
  c1 : w.cell? ⟨pb, 1, none⟩ = some (.int .i64 R)
  code : ∃ v, w.cell? ⟨pb, 2, none⟩ = some v ∧ w.ownsRow (pb + 1) 39 5 v L.length (pcel L)
  outs : ∃ v, w.cell? ⟨pb, 3, none⟩ = some v ∧ w.ownsRow (pb + 1) 3 1 v O.length (icel O)
/-- what the adding of instructions leaves -/
structure Fr (pb : Nat) (w w' : World) : Prop where
  kp : Kp (fun t => t ≠ 39 ∧ t ≠ 27) w w'
  bel : Below pb w w'
theorem Fr.refl (pb : Nat) (w : World) : Fr pb w w := ⟨Kp.refl _ _, Below.refl _ _⟩
theorem Fr.trans {pb : Nat} {a b c : World} (h : Fr pb a b) (k : Fr pb b c) : Fr pb a c := ⟨h.kp.trans k.kp, h.bel.trans k.bel⟩
theorem Fr.below {pb : Nat} {a b c : World} (h : Fr pb a b) (k : Below b.heap.size b c) (hp : pb ≤ b.heap.size) : Fr pb a c := ⟨h.kp.below k, h.bel.trans (k.mono hp)⟩
theorem bkeepN {B : Nat} {W w1 : World} (hb : Below B W w1) {p : Addr} {v : Value} (h : W.cell? p = some v) (hp : p.block < B) : w1.cell? p = some v := by
  unfold World.cell? at h ⊢
  rw [hb.block _ hp]
  exact h
theorem EvB.below {pb : Nat} {k R : Int} {L : List Ins} {O : List Int} {w w' : World} (h : EvB pb k R L O w) (hb : Below w.heap.size w w') : EvB pb k R L O w' := by
  obtain ⟨v, hv, hr⟩ := h.code
  obtain ⟨u, hu, hs⟩ := h.outs
  exact ⟨typ_keep h.ty hb, h.fr.keep hb, bkeep hb h.c0, bkeep hb h.c1, ⟨v, bkeep hb hv, owns_kp (S := fun _ => True) hr (Kp.of_below _ hb) trivial⟩, ⟨u, bkeep hb hu, owns_kp (S := fun _ => True) hs (Kp.of_below _ hb) trivial⟩⟩
/-- the code's row becomes another -/
theorem EvB.put {pb : Nat} {k R : Int} {L M : List Ins} {O : List Int} {w w' : World} {v : Value} (h : EvB pb k R L O w) (hr : w'.ownsRow (pb + 1) 39 5 v M.length (pcel M)) (hk : Kp (· ≠ 39) w w') (hb : Below (pb + 1) w w') :
    EvB pb k R M O (w'.setCell ⟨pb, 2, none⟩ v) ∧ Fr pb w (w'.setCell ⟨pb, 2, none⟩ v) := by
  obtain ⟨v0, hv0, _⟩ := h.code
  obtain ⟨u, hu, hs⟩ := h.outs
  have hlt : pb < pb + 1 := Nat.lt_succ_self _
  have hty := hk.typ h.ty (by decide)
  have hnb : ∀ {x : Value} {T : TypeId} {size n : Nat} {xs : List Value}, w'.ownsRow (pb + 1) T size x n xs → (w'.setCell ⟨pb, 2, none⟩ v).ownsRow (pb + 1) T size x n xs := fun hO => ownsRow_setCell_other hO (fun hb => by have h := (hO.lt _ hb).1; dsimp only at h; omega) v
  refine ⟨⟨by rw [typ_set]; exact hty, ?_, ?_, ?_, ⟨v, cell_here (bkeepN hb hv0 hlt) _, hnb hr⟩, ⟨u, cell_far (bkeepN hb hu hlt) (by simp) _, hnb (owns_kp hs hk (by decide))⟩⟩, ?_, ?_⟩
  · refine Free.set ⟨Nat.lt_of_lt_of_le h.fr.1 hb.size, fun j => ?_⟩ _ _
    rw [World.frozen?_of_block (w := w) (hb.block pb hlt)]; exact h.fr.2 j
  · exact cell_far (bkeepN hb h.c0 hlt) (by simp) _
  · exact cell_far (bkeepN hb h.c1 hlt) (by simp) _
  · refine (hk.weak fun t ht => ht.1).set (fun t ht hs => ?_) _
    rw [hty] at ht
    exact hs.2 (Option.some.inj ht).symm
  · exact (hb.mono (Nat.le_succ _)).setCell (Nat.le_refl _) _
theorem pcel_app (L M : List Ins) : pcel (L ++ M) = pcel L ++ pcel M := by simp [pcel]
theorem EvB.ext {pb : Nat} {k R : Int} {L M : List Ins} {O : List Int} {w : World} (h : EvB pb k R L O w) (e : L = M) : EvB pb k R M O w := e ▸ h
set_option maxRecDepth 100000 in
set_option maxHeartbeats 8000000 in
theorem add_c (pb : Nat) (k R : Int) (L : List Ins) (O : List Int) (i : Ins) (w : World) (h : EvB pb k R L O w) (hl : L.length ≤ 100000) :
    Calls Tryz.prog 36 #[i.v, .pointer (some ⟨pb, 0, none⟩)] w fun e w' => e = .returned (.tuple #[]) ∧ EvB pb k R (L ++ addI i) O w' ∧ Fr pb w w' := by
  obtain ⟨op, t, ia, ib, ic⟩ := i
  have hB := Below.refl w.heap.size w
  have HE := Lib.hid h
  simp only [Ins.v]
  by_cases hno : op = 1 ∧ t = ia
  · have HI := Lib.hid (show addI ⟨op, t, ia, ib, ic⟩ = [] from if_pos hno)
    obtain ⟨rfl, rfl⟩ := hno
    go_enter Tryz.func36, Tryz.ntmps36
    go_wp2
    refine bodyPost_end (v := .tuple #[]) (by simp [results, Tryz.results36, go_sem]) rfl ?_
    exact ⟨rfl, by rw [HI.out, List.append_nil]; exact HE.out.below (by repeat (first | exact Below.refl _ _ | exact hB | refine Below.drew ?_ | refine below_drewN ?_ _ | refine bset ?_ (by simp <;> omega) _ | refine bal ?_ _)), (Fr.refl pb w).below (by repeat (first | exact Below.refl _ _ | exact hB | refine Below.drew ?_ | refine below_drewN ?_ _ | refine bset ?_ (by simp <;> omega) _ | refine bal ?_ _)) (Nat.le_of_lt HE.out.fr.1)⟩
  · have HI := Lib.hid (show addI ⟨op, t, ia, ib, ic⟩ = [⟨op, t, ia, ib, ic⟩] from if_neg hno)
    obtain ⟨v, p2, hr⟩ := h.code
    obtain ⟨va, vc, rfl⟩ := owns_ex hr
    have p2f := h.fr.2 2
    have hpb := h.fr.1
    have HR := Lib.hid hr
    have HL := Lib.hid (show L.length + 1 ≤ 1099511627776 by omega)
    have HP := Lib.hid (show ∀ w1 v' w', Below w.heap.size w w1 → w'.ownsRow (pb + 1) 39 5 v' (L.length + 1) (pcel L ++ [.int .i64 op, .int .i64 t, .int .i64 ia, .int .i64 ib, .int .i64 ic]) → Kp (· ≠ 39) w1 w' → Below (pb + 1) w1 w' → EvB pb k R (L ++ addI ⟨op, t, ia, ib, ic⟩) O (w'.setCell ⟨pb, 2, none⟩ v') ∧ Fr pb w (w'.setCell ⟨pb, 2, none⟩ v') from fun w1 v' w' h1 h2 h3 h4 => by
      have h5 := (HE.out.below h1).put (M := L ++ [⟨op, t, ia, ib, ic⟩]) (v := v') (by rw [pcel_app, List.length_append]; exact h2) h3 h4
      rw [HI.out]
      exact ⟨h5.1, ((Fr.refl pb w).below h1 (Nat.le_of_lt hpb)).trans h5.2⟩)
    have zp := cell_lt p2
    have hzp : pb < w.heap.size + 1 := by omega
    have hop : (op != 1) = true ∨ ((op != 1) = false ∧ (t != ia) = true) := by
      by_cases e : op = 1
      · exact .inr ⟨by simpa using e, by simpa using fun e2 => hno ⟨e, e2⟩⟩
      · exact .inl (by simpa using e)
    clear hr h hno HE HI
    rcases hop with h1 | ⟨h1, h2⟩
    all_goals
      go_enter Tryz.func36, Tryz.ntmps36
      go_wp2_with (at_builtin; refine app_litB (base := pb + 1) (v := .slice va L.length vc) (n := L.length) (xs := pcel L) (g := w.heap.size + 1) (m := 1) (c := 1) (C := [.int .i64 op, .int .i64 t, .int .i64 ia, .int .i64 ib, .int .i64 ic]) elP (by rfl) (by rfl) ?_ ?_ (by rfl) (by rfl) ?_ rfl (pcel_one [⟨op, t, ia, ib, ic⟩]) HL.out ?_; (exact owns_kp (S := fun _ => True) HR.out (Kp.of_below _ (bal hB _)) trivial); (simp; omega); (simp))
      intro v' w8 hO hK hBe
      obtain ⟨va2, vc2, rfl⟩ := owns_ex hO
      have HF := Lib.hid (HP.out _ (.slice va2 (L.length + 1) vc2) w8 (by repeat (first | exact Below.refl _ _ | exact hB | refine Below.drew ?_ | refine below_drewN ?_ _ | refine bset ?_ (by simp <;> omega) _ | refine bal ?_ _)) hO hK hBe)
      have p8 := bkeepN hBe (show _ = some (.slice va L.length vc) from bkeep (show Below w.heap.size w _ by repeat (first | exact Below.refl _ _ | exact hB | refine Below.drew ?_ | refine below_drewN ?_ _ | refine bset ?_ (by simp <;> omega) _ | refine bal ?_ _)) p2) (Nat.lt_succ_self pb)
      have p8f : w8.frozen? ⟨pb, 2, none⟩ = false := by
        rw [World.frozen?_of_block (w := _) (hBe.block pb (Nat.lt_succ_self pb))]
        exact bkeepf (show Below w.heap.size w _ by repeat (first | exact Below.refl _ _ | exact hB | refine Below.drew ?_ | refine below_drewN ?_ _ | refine bset ?_ (by simp <;> omega) _ | refine bal ?_ _)) p2 p2f
      clear hO hK hBe HP HR
      go_wp2
      refine bodyPost_end (v := .tuple #[]) (by simp [results, Tryz.results36, go_sem]) rfl ?_
      exact ⟨rfl, HF.out.1, HF.out.2⟩
end Go.Proofs.YtdllbdfchloijaaGreatDoor

/- eval: Program's scaled: so many powers of a number. -/
namespace Go.Proofs.YtdllbdfchloijaaGreatDoor
open Num
open Go.ChangeShapes Go.WideShapes Go.ChangeAt Go.RowKit
set_option linter.unusedVariables false
set_option linter.unusedSimpArgs false
attribute [local go_sem ↓] Go.wp_at_zero Go.wp_at_succ
/-- the function value that adds -/
def addV (pb : Nat) : Value := .func (.func 36) #[] #[.pointer (some ⟨pb, 0, none⟩)]
/-- the table of trailing noughts lies ahead of the program in the making -/
def TzAt (pb : Nat) (w : World) : Prop := Tz64 w ∧ 1 < pb
theorem TzAt.keep {pb : Nat} {w w' : World} (h : TzAt pb w) (hb : Below w.heap.size w w') : TzAt pb w' := ⟨h.1.keep hb, h.2⟩
theorem TzAt.fr {pb : Nat} {w w' : World} (h : TzAt pb w) (hb : Fr pb w w') : TzAt pb w' := ⟨fun j hj => bkeepN hb.bel (h.1 j hj) h.2, h.2⟩
theorem scaledL_succ (t : Int) {n j : Nat} (h : j < n) (a c : Int) : scaledL t (n - j) a c = addI (timesI t a c) ++ scaledL t (n - (j + 1)) t c := by
  obtain ⟨m, hm⟩ : ∃ m, n - j = m + 1 := ⟨n - j - 1, by omega⟩
  rw [hm, show n - (j + 1) = m by omega]; rfl
set_option maxRecDepth 100000 in
set_option maxHeartbeats 8000000 in
theorem scaled_c (pb fb : Nat) (k R : Int) (L : List Ins) (O : List Int) (t a c : Int) (n : Nat) (w : World) (h : EvB pb k R L O w) (hf : w.cell? ⟨fb, 0, none⟩ = some (addV pb)) (hft : typOf w fb = some 80) (hc : Smn c) (hT : TzAt pb w) (hn : n ≤ 100) (hl : L.length ≤ 10000) :
    Calls Tryz.prog 37 #[.int .i64 t, .int .i64 a, .int .i64 c, .int .i64 n, .pointer (some ⟨fb, 0, none⟩)] w fun e w' => e = .returned (.tuple #[]) ∧ EvB pb k R (L ++ scaledL t n a c) O w' ∧ Fr pb w w' := by
  have HE := Lib.hid h
  have HF := Lib.hid (show ∀ W, Fr pb w W → W.cell? ⟨fb, 0, none⟩ = some (addV pb) from fun W q => q.kp.cell hft (by decide) hf)
  have HT := Lib.hid hT
  have HC := Lib.hid hc
  clear h hf hft hT hc
  go_enter Tryz.func37, Tryz.ntmps37
  go_wp2
  go_loopw [1, 10] (fun a' x wr => ∃ (j : Nat) (ai : Int) (Lj : List Ins), j ≤ n ∧ x = .int .i64 j ∧ a' = .int .i64 ai ∧ Hid (EvB pb k R Lj O wr) ∧ Hid (Lj ++ scaledL t (n - j) ai c = L ++ scaledL t n a c ∧ Lj.length ≤ L.length + j) ∧ Hid (Fr pb w wr)) (fun _ x _ => n - (intOf x).toNat)
  case atStart => exact ⟨0, a, L, Nat.zero_le _, rfl, rfl, HE, Lib.hid ⟨by rw [Nat.sub_zero], by omega⟩, Lib.hid (Fr.refl _ _)⟩
  case round =>
    obtain ⟨j, ai, Lj, hj, rfl, rfl, hE, hL, hR⟩ := hrel
    by_cases hlt : j < n
    · have hltI : (j : Int) < (n : Int) := by omega
      have f0 := HF.out wr hR.out
      unfold addV at f0
      have HS := Lib.hid (show ∀ V, Below wr.heap.size wr V → V.cell? ⟨fb, 0, none⟩ = some (.func (.func 36) #[] #[.pointer (some ⟨pb, 0, none⟩)]) from fun V q => bkeep q f0)
      have TC := Lib.hid (fun V (q : Below wr.heap.size wr V) => timesI_c t ai c V HC.out ((HT.out.fr hR.out).keep q).1)
      have AC := Lib.hid (fun V (q : Below wr.heap.size wr V) => add_c pb k R Lj O (timesI t ai c) V (hE.out.below q) (by have := hL.out.2; omega))
      have HL1 := Lib.hid (show (Lj ++ addI (timesI t ai c)) ++ scaledL t (n - (j + 1)) t c = L ++ scaledL t n a c ∧ (Lj ++ addI (timesI t ai c)).length ≤ L.length + (j + 1) from ⟨by rw [List.append_assoc, ← scaledL_succ t hlt, hL.out.1], by
        have h1 := hL.out.2
        have h2 := addI_le (timesI t ai c)
        rw [List.length_append]; omega⟩)
      have HPB := Lib.hid (show pb ≤ wr.heap.size from Nat.le_of_lt hE.out.fr.1)
      obtain ⟨iv, hiv⟩ : ∃ i, (timesI t ai c).v = i := ⟨_, rfl⟩
      rw [hiv] at TC AC
      have zf := cell_lt f0
      have hBc := Below.refl wr.heap.size wr
      have HLT := Lib.hid hlt
      clear hL hE hlt hiv
      go_wp2
      go_region_held3 (fun V => V.cell? ⟨fb, 0, none⟩ = some (.func (.func 36) #[] #[.pointer (some ⟨pb, 0, none⟩)]))
        (first | (refine HS.out _ ?_; (repeat (first | exact Below.refl _ _ | exact hBc | refine Below.drew ?_ | refine below_drewN ?_ _ | refine bset ?_ (by simp <;> omega) _ | refine bal ?_ _)); done) | exact hfc | fail)
        (first
          | (go_at_call 38; refine (TC.out _ ?_).mono ?_; (repeat (first | exact Below.refl _ _ | exact hBc | refine Below.drew ?_ | refine below_drewN ?_ _ | refine bset ?_ (by simp <;> omega) _ | refine bal ?_ _)); rintro e w5 ⟨rfl, hb5⟩; (have hBd : Below wr.heap.size wr w5 := bthen (by repeat (first | exact Below.refl _ _ | exact hBc | refine Below.drew ?_ | refine below_drewN ?_ _ | refine bset ?_ (by simp <;> omega) _ | refine bal ?_ _)) hb5; clear hBc; have hBc := hBd; clear hBd))
          | (go_at_call 36; refine (AC.out _ ?_).mono ?_; (repeat (first | exact Below.refl _ _ | exact hBc | refine Below.drew ?_ | refine below_drewN ?_ _ | refine bset ?_ (by simp <;> omega) _ | refine bal ?_ _)); rintro e w6 ⟨rfl, hE6, hF6⟩; have HE6 := Lib.hid hE6; have HF6 := Lib.hid ((hR.out.below (show Below wr.heap.size wr _ by repeat (first | exact Below.refl _ _ | exact hBc | refine Below.drew ?_ | refine below_drewN ?_ _ | refine bset ?_ (by simp <;> omega) _ | refine bal ?_ _)) HPB.out).trans hF6); have hfc := HF.out w6 HF6.out; unfold addV at hfc; clear hE6 hF6)
          | fail)
      all_goals
        have hl := HLT.out
        go_wp2
        exact ⟨⟨j + 1, t, _, hl, by go_num, rfl, HE6, HL1, HF6⟩, measE hl (by go_num) rfl⟩
    · obtain rfl : n = j := by omega
      have hltI : ¬ (n : Int) < (n : Int) := by omega
      go_wp2
      refine bodyPost_end (v := .tuple #[]) (by simp [results, Tryz.results37, go_sem]) rfl ?_
      have e := hL.out.1
      rw [Nat.sub_self] at e
      refine ⟨rfl, ?_, hR.out⟩
      rw [← e]
      show EvB pb k R (Lj ++ []) O wr
      rw [List.append_nil]
      exact hE.out
theorem add_l (pb : Nat) (k R : Int) (L : List Ins) (O : List Int) (op t a b c : Int) (w : World) (h : EvB pb k R L O w) (hl : L.length ≤ 100000) :
    Calls Tryz.prog 36 #[.agg #[.int .i64 op, .int .i64 t, .int .i64 a, .int .i64 b, .int .i64 c], .pointer (some ⟨pb, 0, none⟩)] w fun e w' => e = .returned (.tuple #[]) ∧ EvB pb k R (L ++ addI ⟨op, t, a, b, c⟩) O w' ∧ Fr pb w w' := add_c pb k R L O ⟨op, t, a, b, c⟩ w h hl
theorem scaled_z (pb fb : Nat) (k R : Int) (L : List Ins) (O : List Int) (t a c N : Int) (n : Nat) (w : World) (h : EvB pb k R L O w) (hf : w.cell? ⟨fb, 0, none⟩ = some (.func (.func 36) #[] #[.pointer (some ⟨pb, 0, none⟩)])) (hft : typOf w fb = some 80) (hc : Smn c) (hT : TzAt pb w) (hn : n ≤ 100) (hl : L.length ≤ 10000) (hN : N = (n : Int)) :
    Calls Tryz.prog 37 #[.int .i64 t, .int .i64 a, .int .i64 c, .int .i64 N, .pointer (some ⟨fb, 0, none⟩)] w fun e w' => e = .returned (.tuple #[]) ∧ EvB pb k R (L ++ scaledL t n a c) O w' ∧ Fr pb w w' := by
  subst hN
  exact scaled_c pb fb k R L O t a c n w h hf hft hc hT hn hl
end Go.Proofs.YtdllbdfchloijaaGreatDoor

/- eval: Program: the program that evaluates. -/
namespace Go.Proofs.YtdllbdfchloijaaGreatDoor
open Pt
open Num
open Go.ChangeShapes Go.WideShapes Go.ChangeAt Go.RowKit
set_option linter.unusedVariables false
set_option linter.unusedSimpArgs false
attribute [local go_sem ↓] Go.wp_at_zero Go.wp_at_succ
theorem owns_set1 {w : World} {base n i g cap : Nat} {e : TypeId} {xs : List Value} (h : w.ownsRow base e 1 (.slice (some ⟨g, 0, none⟩) n cap) n xs) (u : Value) : (w.setCell ⟨g, i, none⟩ u).ownsRow base e 1 (.slice (some ⟨g, 0, none⟩) n cap) n (xs.set i u) := by
  refine ⟨by rw [List.length_set]; exact h.1, .inr ?_⟩
  rcases h.2 with ⟨hv, _⟩ | ⟨g', cap', cur, hv, hg, hh, h1, h2, h3, h4⟩
  · cases hv
  · cases hv
    refine ⟨g, cap, cur.setIfInBounds i u, rfl, hg, ?_, h1, h2, by simpa using h3, ?_⟩
    · simp [World.setCell, Array.getElem?_modify, hh]
    · rw [← h4]; simp [List.take_set]
/-- the outs' row becomes another -/
theorem EvB.putO {pb : Nat} {k R : Int} {L : List Ins} {O N : List Int} {w w' : World} {v : Value} (h : EvB pb k R L O w) (hr : w'.ownsRow (pb + 1) 3 1 v N.length (icel N)) (hk : Kp (· ≠ 3) w w') (hb : Below (pb + 1) w w') :
    EvB pb k R L N (w'.setCell ⟨pb, 3, none⟩ v) ∧ Kp (fun t => t ≠ 3 ∧ t ≠ 27) w (w'.setCell ⟨pb, 3, none⟩ v) ∧ Below pb w (w'.setCell ⟨pb, 3, none⟩ v) := by
  obtain ⟨v0, hv0, hs⟩ := h.code
  obtain ⟨u, hu, _⟩ := h.outs
  have hlt : pb < pb + 1 := Nat.lt_succ_self _
  have hty := hk.typ h.ty (by decide)
  have hnb : ∀ {x : Value} {T : TypeId} {size n : Nat} {xs : List Value}, w'.ownsRow (pb + 1) T size x n xs → (w'.setCell ⟨pb, 3, none⟩ v).ownsRow (pb + 1) T size x n xs := fun hO => ownsRow_setCell_other hO (fun hb => by have h := (hO.lt _ hb).1; dsimp only at h; omega) v
  refine ⟨⟨by rw [typ_set]; exact hty, ?_, ?_, ?_, ⟨v0, cell_far (bkeepN hb hv0 hlt) (by simp) _, hnb (owns_kp hs hk (by decide))⟩, ⟨v, cell_here (bkeepN hb hu hlt) _, hnb hr⟩⟩, ?_, ?_⟩
  · refine Free.set ⟨Nat.lt_of_lt_of_le h.fr.1 hb.size, fun j => ?_⟩ _ _
    rw [World.frozen?_of_block (w := w) (hb.block pb hlt)]; exact h.fr.2 j
  · exact cell_far (bkeepN hb h.c0 hlt) (by simp) _
  · exact cell_far (bkeepN hb h.c1 hlt) (by simp) _
  · refine (hk.weak fun t ht => ht.1).set (fun t ht hs => ?_) _
    rw [hty] at ht
    exact hs.2 (Option.some.inj ht).symm
  · exact (hb.mono (Nat.le_succ _)).setCell (Nat.le_refl _) _
theorem icel_app (L M : List Int) : icel (L ++ M) = icel L ++ icel M := by simp [icel]
theorem icel_set (L : List Int) (i : Nat) (x : Int) : (icel L).set i (.int .i64 x) = icel (L.set i x) := by simp [icel, List.map_set]
/-- one of the outs becomes another -/
theorem EvB.setO {pb i g cap : Nat} {k R x : Int} {L : List Ins} {O : List Int} {w : World} (h : EvB pb k R L O w) (hc : w.cell? ⟨pb, 3, none⟩ = some (.slice (some ⟨g, 0, none⟩) O.length cap)) :
    EvB pb k R L (O.set i x) (w.setCell ⟨g, i, none⟩ (.int .i64 x)) ∧ Kp (fun t => t ≠ 3 ∧ t ≠ 27) w (w.setCell ⟨g, i, none⟩ (.int .i64 x)) ∧ Below pb w (w.setCell ⟨g, i, none⟩ (.int .i64 x)) ∧ typOf w g = some 3 ∧ pb < g := by
  obtain ⟨v0, hv0, hs⟩ := h.code
  obtain ⟨u, hu, ho⟩ := h.outs
  rw [hc] at hu
  cases hu
  have hg : pb + 1 ≤ g := (ho.lt g rfl).1
  have hty : typOf w g = some 3 := own_typ' ho rfl
  have hne : ∀ o : Nat, (⟨g, i, none⟩ : Addr) ≠ ⟨pb, o, none⟩ := fun o e => by cases e; omega
  have hcode : v0.ownBlock ≠ some g := fun e => by
    have := own_typ' hs e
    rw [hty] at this
    exact absurd this (by decide)
  refine ⟨⟨by rw [typ_set]; exact h.ty, h.fr.set _ _, cell_far h.c0 (hne 0) _, cell_far h.c1 (hne 1) _, ⟨v0, cell_far hv0 (hne 2) _, ownsRow_setCell_other hs hcode _⟩, ⟨_, cell_far hc (hne 3) _, ?_⟩⟩, ?_, ?_, hty, hg⟩
  · rw [List.length_set, ← icel_set]
    exact owns_set1 ho _
  · refine (Kp.refl _ _).set (fun t ht hs => ?_) _
    dsimp only at ht
    rw [hty] at ht
    exact hs.1 (Option.some.inj ht).symm
  · exact (Below.refl _ _).setCell (by dsimp only; omega) _
/-- Program at work: so many points are done -/
structure EvS (w : World) (pb fb k n : Nat) (f : Nat → Int × Int) (i : Nat) (wr : World) : Prop where
  ev : EvB pb k ((k + n + 1 : Nat) : Int) (codeL k n f i) (outsL k i) wr
  fn : wr.cell? ⟨fb, 0, none⟩ = some (addV pb)
  ft : typOf wr fb = some 80
  bel : Below w.heap.size w wr
  lo : w.heap.size < pb
  r0 : wr.cell? ⟨w.heap.size, 0, none⟩ = some (.int .i64 0)
  r1 : wr.cell? ⟨w.heap.size, 1, none⟩ = some (.int .i64 0)
  r2 : wr.cell? ⟨w.heap.size, 2, none⟩ = some (.slice none 0 0)
  r3 : wr.cell? ⟨w.heap.size, 3, none⟩ = some (.slice none 0 0)
  rf : ∀ j, wr.frozen? ⟨w.heap.size, j, none⟩ = false
  tz : TzAt pb wr
/-- what Program's own stores leave -/
structure Fr2 (pb : Nat) (w w' : World) : Prop where
  kp : Kp (fun t => t ≠ 3 ∧ t ≠ 27 ∧ t ≠ 39) w w'
  bel : Below pb w w'
theorem Fr.fr2 {pb : Nat} {w w' : World} (h : Fr pb w w') : Fr2 pb w w' := ⟨h.kp.weak fun t ht => ⟨ht.2.2, ht.2.1⟩, h.bel⟩
theorem Fr2.trans {pb : Nat} {a b c : World} (h : Fr2 pb a b) (k : Fr2 pb b c) : Fr2 pb a c := ⟨h.kp.trans k.kp, h.bel.trans k.bel⟩
theorem Fr2.below {pb : Nat} {a b c : World} (h : Fr2 pb a b) (k : Below b.heap.size b c) (hp : pb ≤ b.heap.size) : Fr2 pb a c := ⟨h.kp.below k, h.bel.trans (k.mono hp)⟩
theorem Fr2.refl (pb : Nat) (w : World) : Fr2 pb w w := ⟨Kp.refl _ _, Below.refl _ _⟩
theorem EvS.next {w wr wq : World} {pb fb k n i : Nat} {f : Nat → Int × Int} (h : EvS w pb fb k n f i wr) (hf : Fr2 pb wr wq) (he : EvB pb k ((k + n + 1 : Nat) : Int) (codeL k n f (i + 1)) (outsL k (i + 1)) wq) : EvS w pb fb k n f (i + 1) wq where
  ev := he
  fn := hf.kp.cell h.ft (by decide) h.fn
  ft := hf.kp.typ h.ft (by decide)
  bel := h.bel.trans (hf.bel.mono (Nat.le_of_lt h.lo))
  lo := h.lo
  r0 := bkeepN hf.bel h.r0 h.lo
  r1 := bkeepN hf.bel h.r1 h.lo
  r2 := bkeepN hf.bel h.r2 h.lo
  r3 := bkeepN hf.bel h.r3 h.lo
  rf := fun j => by rw [World.frozen?_of_block (w := wr) (hf.bel.block _ h.lo)]; exact h.rf j
  tz := ⟨fun j hj => bkeepN hf.bel (h.tz.1 j hj) h.tz.2, h.tz.2⟩
theorem outsL_one (n : Nat) : (outsL 1 n ++ [((1 + n : Nat) : Int)]).set n 0 = outsL 1 (n + 1) := by
  rw [outsL_succ]
  have : (outsL 1 n).length = n := outsL_len 1 n
  rw [List.set_append_right _ _ (by omega), this, Nat.sub_self]
  rfl
theorem codeL_succ (k n : Nat) (f : Nat → Int × Int) (i : Nat) : codeL k n f (i + 1) = codeL k n f i ++ pointL k ((k + i : Nat) : Int) ((k + n : Nat) : Int) (f i) := rfl
end Go.Proofs.YtdllbdfchloijaaGreatDoor

/- Plain: the reference's sums, differences, binary digits. -/
namespace Go.Proofs.YtdllbdfchloijaaGreatDoor.NumR
open Num (Nrm bitN bitN_half trimL)
theorem take_any (l : List Nat) (k : Nat) : val (l.take (k + 1)) = val (l.take k) + l.getD k 0 * BB ^ k := by
  by_cases h : k < l.length
  · exact val_take_succ h
  · rw [List.take_of_length_le (by omega), List.take_of_length_le (by omega)]; simp [show l.length ≤ k by omega]
theorem val_snoc (O : List Nat) (x : Nat) : val (O ++ [x]) = val O + x * BB ^ O.length := by rw [val_append]; simp [val, Nat.mul_comm]
theorem plus_step {O A B : List Nat} {i c t : Nat} (hO : O.length = i) (ht : t = c + A.getD i 0 + B.getD i 0) (h : val O + c * BB ^ i = val (A.take i) + val (B.take i)) :
    val (O ++ [t % BB]) + t / BB * BB ^ (i + 1) = val (A.take (i + 1)) + val (B.take (i + 1)) := by
  rw [val_snoc, take_any, take_any, hO]
  have e : t * BB ^ i = t / BB * BB ^ (i + 1) + t % BB * BB ^ i := by
    conv => lhs; rw [← Nat.div_add_mod t BB, Nat.add_mul]
    rw [Nat.pow_succ]; congr 1; ac_rfl
  have e2 : t * BB ^ i = c * BB ^ i + A.getD i 0 * BB ^ i + B.getD i 0 * BB ^ i := by rw [ht]; simp only [Nat.add_mul]
  omega
theorem minus_step {O A B : List Nat} {i c r c' : Nat} (hO : O.length = i) (hr : r + (c + B.getD i 0) = A.getD i 0 + c' * BB) (h : val O + val (B.take i) = val (A.take i) + c * BB ^ i) :
    val (O ++ [r]) + val (B.take (i + 1)) = val (A.take (i + 1)) + c' * BB ^ (i + 1) := by
  rw [val_snoc, take_any, take_any, hO]
  have e := congrArg (· * BB ^ i) hr
  simp only [Nat.add_mul] at e
  have e2 : c' * BB * BB ^ i = c' * BB ^ (i + 1) := by rw [Nat.pow_succ]; ac_rfl
  omega
theorem minus_end {A B : List Nat} {V c : Nat} (hA : Limbs A) (hle : val B ≤ val A) (hlen : B.length ≤ A.length) (h : V + val (B.take A.length) = val (A.take A.length) + c * BB ^ A.length) (hV : V < BB ^ A.length) : V + val B = val A := by
  rw [List.take_of_length_le hlen, List.take_length] at h
  rcases Nat.eq_zero_or_pos c with rfl | hc
  · omega
  · have : 1 * BB ^ A.length ≤ c * BB ^ A.length := Nat.mul_le_mul hc (Nat.le_refl _)
    omega
theorem BB_pow (n : Nat) : BB ^ n = 2 ^ (16 * n) := by rw [Nat.pow_mul]; rfl
theorem bitN_snoc {l : List Nat} {x : Nat} (hl : Limbs l) (hx : x ≠ 0) : bitN (val (l ++ [x])) = 16 * l.length + bitN x := by
  have h1 := val_lt hl
  rw [val_append]
  simp only [val, Nat.mul_zero, Nat.add_zero]
  rw [BB_pow] at *
  have hp : 0 < 2 ^ (16 * l.length) := Nat.pow_pos (by omega)
  have h2 : 2 ^ (16 * l.length) * 1 ≤ 2 ^ (16 * l.length) * x := Nat.mul_le_mul_left _ (by omega)
  unfold bitN
  rw [if_neg (by omega), if_neg hx]
  have e : (val l + 2 ^ (16 * l.length) * x).log2 = 16 * l.length + x.log2 := by
    rw [Nat.log2_eq_iff (by omega)]
    have k1 := Nat.log2_self_le hx
    have k2 := @Nat.lt_log2_self x
    constructor
    · rw [Nat.pow_add]
      have := Nat.mul_le_mul_left (2 ^ (16 * l.length)) k1
      omega
    · rw [Nat.add_assoc, Nat.pow_add]
      have := Nat.mul_le_mul_left (2 ^ (16 * l.length)) (show x + 1 ≤ 2 ^ (x.log2 + 1) from k2)
      rw [Nat.mul_add] at this
      omega
  omega
theorem bitN_nrm {l : List Nat} {k : Nat} (hl : Limbs l) (hn : Nrm l) (hk : l.length = k + 1) : bitN (val l) = 16 * k + bitN (l.getD k 0) := by
  obtain ⟨m, x, rfl⟩ : ∃ m x, l = m ++ [x] := ⟨l.dropLast, l.getLast (by intro e; subst e; simp at hk), (List.dropLast_concat_getLast _).symm⟩
  simp at hk
  have hx := hn (by simp)
  simp at hx
  rw [bitN_snoc (fun y hy => hl y (by simp [hy])) hx, hk]
  congr 2
  simp [← hk]
theorem lt_bitN (v : Nat) : v < 2 ^ bitN v := by
  unfold bitN
  split
  · subst_vars; simp
  · exact Nat.lt_log2_self
theorem bitN_le {v n : Nat} (h : v < 2 ^ n) : bitN v ≤ n := by
  unfold bitN
  split
  · omega
  · rename_i h0
    have := Nat.log2_self_le h0
    have h2 : 2 ^ v.log2 < 2 ^ n := Nat.lt_of_le_of_lt this h
    have := (Nat.pow_lt_pow_iff_right (a := 2) (by omega)).1 h2
    omega
/-- a digit, out of the value -/
theorem getD_val {l : List Nat} (hl : Limbs l) (j : Nat) : l.getD j 0 = val l / BB ^ j % BB := by
  induction l generalizing j with
  | nil => simp [val]
  | cons x l ih =>
    have hx : x < BB := hl x (by simp)
    have hl' : Limbs l := fun y hy => hl y (by simp [hy])
    cases j with
    | zero => simp [val]; exact (Nat.mod_eq_of_lt hx).symm
    | succ j =>
      rw [List.getD_cons_succ, ih hl' j, val, Nat.pow_succ, Nat.mul_comm (BB ^ j), ← Nat.div_div_eq_div_mul]
      rw [Nat.add_mul_div_left _ _ BB_pos, Nat.div_eq_of_lt hx, Nat.zero_add]
/-- a binary digit -/
theorem bit_val {l : List Nat} (hl : Limbs l) (k : Nat) : l.getD (k / 16) 0 / 2 ^ (k % 16) % 2 = val l / 2 ^ k % 2 := by
  rw [getD_val hl, BB_pow]
  have e1 : 2 ^ k = 2 ^ (16 * (k / 16)) * 2 ^ (k % 16) := by rw [← Nat.pow_add]; congr 1; omega
  rw [e1, ← Nat.div_div_eq_div_mul]
  generalize val l / 2 ^ (16 * (k / 16)) = x
  have hk : k % 16 < 16 := Nat.mod_lt _ (by omega)
  generalize k % 16 = m at *
  have e2 : BB = 2 ^ m * (2 * 2 ^ (15 - m)) := by
    show (2 : Nat) ^ 16 = _
    rw [← Nat.mul_assoc, ← Nat.pow_succ, ← Nat.pow_add]; congr 1; omega
  rw [e2, Nat.mod_mul_right_div_self, Nat.mod_mul_right_mod]
/-- twice a number, one place -/
theorem twice_step {R R0 : List Nat} {i c t V : Nat} (hi : i < R.length) (he : R.getD i 0 = R0.getD i 0) (ht : t = c + 2 * R0.getD i 0)
    (h : val R + c * BB ^ i = V + val (R0.take i)) : val (R.set i (t % BB)) + t / BB * BB ^ (i + 1) = V + val (R0.take (i + 1)) := by
  have a1 := val_set (l := R) (k := i) (t % BB) hi
  rw [take_any, ← he]
  have e : t * BB ^ i = t / BB * BB ^ (i + 1) + t % BB * BB ^ i := by
    conv => lhs; rw [← Nat.div_add_mod t BB, Nat.add_mul]
    rw [Nat.pow_succ]; congr 1; ac_rfl
  have e2 : t * BB ^ i = c * BB ^ i + 2 * (R.getD i 0 * BB ^ i) := by rw [ht, he]; simp only [Nat.add_mul]; congr 1; ac_rfl
  omega
theorem nrm_of_val {l : List Nat} (hl : Limbs l) (h : l ≠ [] → BB ^ (l.length - 1) ≤ val l) : Nrm l := by
  intro hn e
  obtain ⟨m, x, rfl⟩ : ∃ m x, l = m ++ [x] := ⟨l.dropLast, l.getLast hn, (List.dropLast_concat_getLast _).symm⟩
  simp at e
  subst e
  have h1 := h hn
  have h2 := val_lt (l := m) (fun y hy => hl y (by simp [hy]))
  rw [val_snoc] at h1
  simp at h1
  omega
/-- a binary digit is put in -/
theorem or_val {l : List Nat} {k Q : Nat} (hl : Limbs l) (hv : val l = Q * 2 ^ (k + 1)) : l.getD (k / 16) 0 ||| 2 ^ (k % 16) = l.getD (k / 16) 0 + 2 ^ (k % 16) ∧ l.getD (k / 16) 0 + 2 ^ (k % 16) < BB := by
  have hk : k % 16 < 16 := Nat.mod_lt _ (by omega)
  have e1 : l.getD (k / 16) 0 = 2 ^ (k % 16 + 1) * (Q % 2 ^ (15 - k % 16)) := by
    rw [getD_val hl, hv, BB_pow]
    have e1 : 2 ^ (k + 1) = 2 ^ (16 * (k / 16)) * 2 ^ (k % 16 + 1) := by rw [← Nat.pow_add]; congr 1; omega
    rw [e1, show Q * (2 ^ (16 * (k / 16)) * 2 ^ (k % 16 + 1)) = 2 ^ (16 * (k / 16)) * (2 ^ (k % 16 + 1) * Q) by ac_rfl, Nat.mul_div_cancel_left _ (Nat.pow_pos (by omega))]
    have e2 : BB = 2 ^ (k % 16 + 1) * 2 ^ (15 - k % 16) := by
      show (2 : Nat) ^ 16 = _
      rw [← Nat.pow_add]; congr 1; omega
    rw [e2, Nat.mul_mod_mul_left]
  have e2 : BB = 2 ^ (k % 16 + 1) * 2 ^ (15 - k % 16) := by
    show (2 : Nat) ^ 16 = _
    rw [← Nat.pow_add]; congr 1; omega
  have hm : Q % 2 ^ (15 - k % 16) < 2 ^ (15 - k % 16) := Nat.mod_lt _ (Nat.pow_pos (by omega))
  have hlt : 2 ^ (k % 16) < 2 ^ (k % 16 + 1) := Nat.pow_lt_pow_right (by omega) (by omega)
  generalize Q % 2 ^ (15 - k % 16) = z at *
  rw [e1]
  refine ⟨(Nat.two_pow_add_eq_or_of_lt hlt z).symm, ?_⟩
  rw [e2]
  have := Nat.mul_le_mul_left (2 ^ (k % 16 + 1)) hm
  rw [Nat.mul_succ] at this
  omega
theorem set_bit {l : List Nat} {k : Nat} (hk : k / 16 < l.length) : val (l.set (k / 16) (l.getD (k / 16) 0 + 2 ^ (k % 16))) = val l + 2 ^ k := by
  have a1 := val_set (l := l) (k := k / 16) (l.getD (k / 16) 0 + 2 ^ (k % 16)) hk
  have e1 : 2 ^ k = 2 ^ (k % 16) * BB ^ (k / 16) := by rw [BB_pow, ← Nat.pow_add]; congr 1; omega
  rw [Nat.add_mul, ← e1] at a1
  omega
/-- long division, one binary digit -/
theorem half_step (A k : Nat) : A / 2 ^ k = 2 * (A / 2 ^ (k + 1)) + A / 2 ^ k % 2 := by
  rw [Nat.pow_succ, ← Nat.div_div_eq_div_mul]
  have := Nat.div_add_mod (A / 2 ^ k) 2
  omega
theorem bit_take {A k Q R D V b : Nat} (h : A / 2 ^ (k + 1) = Q * D + R) (hb : b = A / 2 ^ k % 2) (hv : V = Q * 2 ^ (k + 1)) :
    A / 2 ^ k = 2 * Q * D + (b + 2 * R) ∧ V = 2 * Q * 2 ^ k := by
  have h1 := half_step A k
  rw [h, ← hb] at h1
  refine ⟨?_, by rw [hv, Nat.pow_succ]; ac_rfl⟩
  rw [h1, Nat.mul_add]
  have : 2 * (Q * D) = 2 * Q * D := by ac_rfl
  omega
theorem bit_more {X Q D R V k : Nat} (h : X = 2 * Q * D + R) (hD : D ≤ R) (hv : V = 2 * Q * 2 ^ k) : X = (2 * Q + 1) * D + (R - D) ∧ V + 2 ^ k = (2 * Q + 1) * 2 ^ k := by
  rw [Nat.add_mul, Nat.add_mul]
  omega
/-- short division, one digit -/
theorem short_step {O A : List Nat} {j c rest : Nat} (hc : 0 < c) (hO : j < O.length) (h0 : O.getD j 0 = 0) (hA : j < A.length)
    (h : val O * c + rest * BB ^ (j + 1) + val (A.take (j + 1)) = val A) : val (O.set j ((rest * BB + A.getD j 0) / c)) * c + (rest * BB + A.getD j 0) % c * BB ^ j + val (A.take j) = val A := by
  have a1 := val_set (l := O) (k := j) ((rest * BB + A.getD j 0) / c) hO
  rw [h0] at a1
  rw [take_any] at h
  have e := Nat.div_add_mod (rest * BB + A.getD j 0) c
  generalize (rest * BB + A.getD j 0) / c = q at *
  generalize (rest * BB + A.getD j 0) % c = m at *
  have e1 : val (O.set j q) = val O + q * BB ^ j := by omega
  rw [e1, Nat.add_mul]
  have e2 : (c * q + m) * BB ^ j = rest * BB ^ (j + 1) + A.getD j 0 * BB ^ j := by
    rw [e, Nat.add_mul, Nat.pow_succ]; congr 1; ac_rfl
  rw [Nat.add_mul] at e2
  have e3 : q * BB ^ j * c = c * q * BB ^ j := by ac_rfl
  omega
theorem short_lt {rest x c : Nat} (hr : rest < c) (hx : x < BB) : (rest * BB + x) / c < BB := by
  rw [Nat.div_lt_iff_lt_mul (by omega)]
  have : (rest + 1) * BB ≤ c * BB := Nat.mul_le_mul hr (Nat.le_refl _)
  rw [Nat.add_mul] at this
  rw [Nat.mul_comm BB c]
  omega
end Go.Proofs.YtdllbdfchloijaaGreatDoor.NumR

/- vm: Next, Done, Outs. -/
namespace Go.Proofs.YtdllbdfchloijaaGreatDoor
open Num
open Go.ChangeShapes Go.WideShapes Go.ChangeAt Go.RowKit
set_option linter.unusedVariables false
set_option linter.unusedSimpArgs false
attribute [local go_sem ↓] Go.wp_at_zero Go.wp_at_succ
section
variable {base b rb rc : Nat} {ins regs : Int} {code : List Ins} {outs : List Int} {g : Grid} {n : Nat}
/-- fresh rows -/
abbrev RowW (base : Nat) := RowO IsInt 50 base
end
end Go.Proofs.YtdllbdfchloijaaGreatDoor

/- vm: Run. -/
namespace Go.Proofs.YtdllbdfchloijaaGreatDoor
open Num
open Go.ChangeShapes Go.WideShapes Go.ChangeAt Go.RowKit
set_option linter.unusedVariables false
set_option linter.unusedSimpArgs false
theorem cs_of {ins regs : Int} {code : List Ins} {outs : List Int} (h : ProgOk ins regs code outs) : Cs code := fun n hn => by
  obtain ⟨h1, h2, h3, h4, h5, h6, _⟩ := (mayB_iff ..).1 (h.cs n hn)
  constructor
  · intro e; rw [constB_mul (.inl e)] at h6; have := of_decide_eq_true h6; omega
  · intro e; rw [constB_shift (.inl e)] at h6; have := of_decide_eq_true h6; omega
theorem ins_of {ins regs : Int} {code : List Ins} {outs : List Int} (h : ProgOk ins regs code outs) {n : Nat} (hn : n < code.length) : InsOk (code.getD n default) regs.toNat := by
  have h1 := h.i1; have h2 := h.i2
  refine insOk_of ?_ (by omega)
  rw [show ((regs.toNat : Nat) : Int) = regs by omega]; exact h.cs n hn
end Go.Proofs.YtdllbdfchloijaaGreatDoor

/- Plain: decimal digits, low one first; nine at a time; a number's text. -/
namespace Go.Proofs.YtdllbdfchloijaaGreatDoor.Num
/-- the decimal digits of a number, low one first; none of 0 -/
def lowD : Nat → List Nat
  | 0 => []
  | n + 1 => (n + 1) % 10 :: lowD ((n + 1) / 10)
decreasing_by omega
theorem lowD_zero : lowD 0 = [] := by rw [lowD]
theorem lowD_pos {n : Nat} (h : 0 < n) : lowD n = n % 10 :: lowD (n / 10) := by
  cases n with
  | zero => omega
  | succ n => rw [lowD]
theorem lowD_lt (n : Nat) : ∀ d ∈ lowD n, d < 10 := by
  induction n using Nat.strongRecOn with
  | _ n ih =>
    intro d hd
    by_cases h : 0 < n
    · rw [lowD_pos h] at hd
      rcases List.mem_cons.1 hd with rfl | hd
      · omega
      · exact ih (n / 10) (by omega) d hd
    · obtain rfl : n = 0 := by omega
      rw [lowD_zero] at hd; cases hd
theorem lowD_ne {n : Nat} (h : 0 < n) : lowD n ≠ [] := by rw [lowD_pos h]; simp
theorem lowD_len (k : Nat) : ∀ n, n < 2 ^ k → (lowD n).length ≤ k := by
  induction k with
  | zero => intro n h; obtain rfl : n = 0 := by simpa using h
            rw [lowD_zero]; simp
  | succ k ih =>
    intro n h
    by_cases h0 : 0 < n
    · rw [lowD_pos h0]
      have := ih (n / 10) (by rw [Nat.pow_succ] at h; omega)
      simp; exact this
    · obtain rfl : n = 0 := by omega
      rw [lowD_zero]; simp
/-- the low k digits of a number, with noughts -/
def padD : Nat → Nat → List Nat
  | 0, _ => []
  | k + 1, n => n % 10 :: padD k (n / 10)
theorem padD_len (k n : Nat) : (padD k n).length = k := by
  induction k generalizing n with
  | zero => rfl
  | succ k ih => simp [padD, ih]
theorem padD_snoc (k n : Nat) : padD (k + 1) n = padD k n ++ [n / 10 ^ k % 10] := by
  induction k generalizing n with
  | zero => simp [padD]
  | succ k ih =>
    rw [padD, ih (n / 10)]
    show _ = (n % 10 :: padD k (n / 10)) ++ _
    rw [List.cons_append, Nat.div_div_eq_div_mul, Nat.pow_succ, Nat.mul_comm 10]
/-- a number's digits: its low k, then those of what is above -/
theorem lowD_split (k : Nat) : ∀ n, 10 ^ k ≤ n → lowD n = padD k n ++ lowD (n / 10 ^ k) := by
  induction k with
  | zero => intro n _; simp [padD]
  | succ k ih =>
    intro n h
    have hp : 0 < 10 ^ k := Nat.pow_pos (by omega)
    rw [Nat.pow_succ] at h
    have hn : 0 < n := by omega
    rw [lowD_pos hn, ih (n / 10) (by rw [Nat.le_div_iff_mul_le (by omega)]; exact h), padD, Nat.div_div_eq_div_mul, Nat.pow_succ, Nat.mul_comm 10]
    rfl
/-- of a short number: with noughts above -/
theorem padD_low (k : Nat) : ∀ n, n < 10 ^ k → padD k n = lowD n ++ List.replicate (k - (lowD n).length) 0 ∧ (lowD n).length ≤ k := by
  induction k with
  | zero =>
    intro n h
    obtain rfl : n = 0 := by simpa using h
    simp [padD, lowD_zero]
  | succ k ih =>
    intro n h
    have h2 : n / 10 < 10 ^ k := by rw [Nat.pow_succ] at h; omega
    obtain ⟨e, hl⟩ := ih (n / 10) h2
    by_cases h0 : 0 < n
    · rw [padD, e, lowD_pos h0]
      refine ⟨?_, by simpa using hl⟩
      simp
    · obtain rfl : n = 0 := by omega
      rw [padD, e]
      simp [lowD_zero, List.replicate_succ]
theorem padD_mod (k : Nat) : ∀ n, padD k (n % 10 ^ k) = padD k n := by
  induction k with
  | zero => intro n; rfl
  | succ k ih =>
    intro n
    rw [padD, padD]
    have e1 : n % 10 ^ (k + 1) % 10 = n % 10 := by
      rw [Nat.pow_succ, Nat.mul_comm]
      exact Nat.mod_mul_right_mod n 10 (10 ^ k)
    have e2 : n % 10 ^ (k + 1) / 10 = n / 10 % 10 ^ k := by
      rw [Nat.pow_succ, Nat.mul_comm]
      exact Nat.mod_mul_right_div_self n 10 (10 ^ k)
    rw [e1, e2, ih]
/-- a number nine digits at a time, low ones first -/
def pcs : Nat → List Nat
  | 0 => []
  | n + 1 => (n + 1) % 1000000000 :: pcs ((n + 1) / 1000000000)
decreasing_by omega
theorem pcs_zero : pcs 0 = [] := by rw [pcs]
theorem pcs_pos {n : Nat} (h : 0 < n) : pcs n = n % 1000000000 :: pcs (n / 1000000000) := by
  cases n with
  | zero => omega
  | succ n => rw [pcs]
theorem pcs_lt (n : Nat) : ∀ d ∈ pcs n, d < 1000000000 := by
  induction n using Nat.strongRecOn with
  | _ n ih =>
    intro d hd
    by_cases h : 0 < n
    · rw [pcs_pos h] at hd
      rcases List.mem_cons.1 hd with rfl | hd
      · omega
      · exact ih (n / 1000000000) (by omega) d hd
    · obtain rfl : n = 0 := by omega
      rw [pcs_zero] at hd; cases hd
theorem pcs_ne {n : Nat} (h : 0 < n) : pcs n ≠ [] := by rw [pcs_pos h]; simp
/-- the pieces' digits: the last without noughts above -/
def lowP : List Nat → List Nat
  | [] => []
  | [p] => lowD p
  | p :: q :: l => padD 9 p ++ lowP (q :: l)
theorem lowP_pcs (n : Nat) : lowP (pcs n) = lowD n := by
  induction n using Nat.strongRecOn with
  | _ n ih =>
    by_cases h : 0 < n
    · rw [pcs_pos h]
      by_cases h2 : 0 < n / 1000000000
      · have e := ih (n / 1000000000) (by omega)
        rw [pcs_pos h2] at e ⊢
        rw [lowP, e, lowD_split 9 n (by omega)]
        have := padD_mod 9 n
        rw [show (10 : Nat) ^ 9 = 1000000000 from rfl] at *
        rw [this]
      · have h3 : n / 1000000000 = 0 := by omega
        rw [h3, pcs_zero, lowP, Nat.mod_eq_of_lt (by omega)]
    · obtain rfl : n = 0 := by omega
      rw [pcs_zero, lowD_zero]; rfl
/-- the last piece of a number is not 0 -/
theorem pcs_last (n : Nat) : ∀ h : pcs n ≠ [], 0 < (pcs n).getLast h := by
  induction n using Nat.strongRecOn with
  | _ n ih =>
    intro h
    have hn : 0 < n := by
      rcases Nat.eq_zero_or_pos n with rfl | h'
      · exact absurd pcs_zero h
      · exact h'
    by_cases h2 : 0 < n / 1000000000
    · have h3 := ih (n / 1000000000) (by omega) (pcs_ne h2)
      have e : (pcs n).getLast h = (pcs (n / 1000000000)).getLast (pcs_ne h2) := by
        have : ∀ l (hl : l ≠ []), l = n % 1000000000 :: pcs (n / 1000000000) → l.getLast hl = (pcs (n / 1000000000)).getLast (pcs_ne h2) := by
          intro l hl el; subst el; exact List.getLast_cons (pcs_ne h2)
        exact this _ h (pcs_pos hn)
      rw [e]; exact h3
    · have e : (pcs n).getLast h = n % 1000000000 := by
        have : ∀ l (hl : l ≠ []), l = [n % 1000000000] → l.getLast hl = n % 1000000000 := by
          intro l hl el; subst el; rfl
        exact this _ h (by rw [pcs_pos hn, show n / 1000000000 = 0 by omega, pcs_zero])
      rw [e]
      have : n < 1000000000 := by omega
      rw [Nat.mod_eq_of_lt this]; exact hn
/-- digits as bytes, high one first -/
def asc (l : List Nat) : List UInt8 := l.reverse.map fun d => UInt8.ofNat (48 + d)
theorem asc_append (l m : List Nat) : asc (l ++ m) = asc m ++ asc l := by simp [asc]
theorem lowD_last (n : Nat) : ∀ h : lowD n ≠ [], 0 < (lowD n).getLast h := by
  induction n using Nat.strongRecOn with
  | _ n ih =>
    intro h
    have hn : 0 < n := by
      rcases Nat.eq_zero_or_pos n with rfl | h'
      · exact absurd lowD_zero h
      · exact h'
    by_cases h2 : 0 < n / 10
    · have h3 := ih (n / 10) (by omega) (lowD_ne h2)
      have e : (lowD n).getLast h = (lowD (n / 10)).getLast (lowD_ne h2) := by
        have : ∀ l (hl : l ≠ []), l = n % 10 :: lowD (n / 10) → l.getLast hl = (lowD (n / 10)).getLast (lowD_ne h2) := by
          intro l hl el; subst el; exact List.getLast_cons (lowD_ne h2)
        exact this _ h (lowD_pos hn)
      rw [e]; exact h3
    · have e : (lowD n).getLast h = n % 10 := by
        have : ∀ l (hl : l ≠ []), l = [n % 10] → l.getLast hl = n % 10 := by
          intro l hl el; subst el; rfl
        exact this _ h (by rw [lowD_pos hn, show n / 10 = 0 by omega, lowD_zero])
      rw [e]; omega
/-- a number's text -/
def natTxt (n : Nat) : List UInt8 := if n = 0 then [48] else asc (lowD n)
def intTxt (z : Int) : List UInt8 := (if z < 0 then [45] else []) ++ natTxt z.natAbs
/-- the highest piece, its noughts ahead struck -/
theorem asc_pad_top {p : Nat} (h0 : 0 < p) (h : p < 1000000000) : (asc (padD 9 p)).dropWhile (· == 48) = asc (lowD p) := by
  obtain ⟨e, _⟩ := padD_low 9 p h
  rw [e, asc_append]
  have hz : asc (List.replicate (9 - (lowD p).length) 0) = List.replicate (9 - (lowD p).length) 48 := by simp [asc]
  rw [hz]
  have hd : ∀ (n : Nat) (l : List UInt8), (List.replicate n 48 ++ l).dropWhile (· == 48) = l.dropWhile (· == 48) := by
    intro n l
    induction n with
    | zero => rfl
    | succ n ih => rw [List.replicate_succ, List.cons_append, List.dropWhile_cons]; simp [ih]
  rw [hd]
  have hne := lowD_ne h0
  have hl := lowD_last p hne
  have hlt := lowD_lt p _ (List.getLast_mem hne)
  have e2 : asc (lowD p) = UInt8.ofNat (48 + (lowD p).getLast hne) :: asc (lowD p).dropLast := by
    conv => lhs; rw [← List.dropLast_concat_getLast hne]
    rw [asc_append]; rfl
  have h3 : (UInt8.ofNat (48 + (lowD p).getLast hne) == 48) = false := by
    rw [beq_eq_false_iff_ne]
    intro h
    have := congrArg UInt8.toNat h
    rw [UInt8.toNat_ofNat'] at this
    have h48 : (48 : UInt8).toNat = 48 := rfl
    rw [h48] at this
    omega
  rw [e2, List.dropWhile_cons, if_neg]
  intro h
  have h4 : (UInt8.ofNat (48 + (lowD p).getLast hne) == 48) = true := h
  rw [h3] at h4; cases h4
/-- the pieces from the i-th on -/
theorem lowP_cons {p : Nat} {l : List Nat} (h : l ≠ []) : lowP (p :: l) = padD 9 p ++ lowP l := by
  cases l with
  | nil => exact absurd rfl h
  | cons q l => rfl
theorem asc_len (l : List Nat) : (asc l).length = l.length := by simp [asc]
end Go.Proofs.YtdllbdfchloijaaGreatDoor.Num

