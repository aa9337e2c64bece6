/- Texts of this seat, laid together: EvB, EvC, EvE, EvF, EvJ, MxH. Each opens with its own remark, which says what it proves, and under which conditions. -/
import Derived.Test.YtdllbdfchloijaaGreatDoorV23
import Derived.Test.YtdllbdfchloijaaGreatDoorV12
import Derived.Test.YtdllbdfchloijaaGreatDoorV06
import Derived.Test.YtdllbdfchloijaaGreatDoorV13
import Derived.Deep.LoopGhost
import Derived.Deep.DeepCutAuto
import Derived.Test.YtdllbdfchloijaaGreatDoorV15
import Derived.Test.YtdllbdfchloijaaGreatDoorV16
import Derived.Test.YtdllbdfchloijaaGreatDoorV18
import Derived.Test.YtdllbdfchloijaaGreatDoorV11
import Derived.Test.YtdllbdfchloijaaGreatDoorV22
set_option linter.unusedVariables false
set_option linter.unusedSimpArgs false
/- eval: Program's add and scaled: a program in the making, to which instructions are added. -/
namespace Go.Proofs.YtdllbdfchloijaaGreatDoor
open Num
open Go.ChangeShapes Go.WideShapes Go.ChangeAt Go.RowKit
set_option linter.unusedVariables false
set_option linter.unusedSimpArgs false
theorem measE {N c : Nat} (h : c < N) {a b : Value} (ha : a = .int .i64 ((c + 1 : Nat) : Int)) (hb : b = .int .i64 (c : Nat)) : N - (intOf a).toNat < N - (intOf b).toNat := by
  subst ha hb
  simp [intOf]
  omega
section
variable {P : Program} {T E : TypeId} {size bytes : Nat} {ops : Array Oper} {rest : List Oper} {o : Oper} {a : Act} {Q : Exit → Act → World → Prop} {base : Nat} {wr : World} {v : Value} {n : Nat} {xs C : List Value} {t : TypeId} {s x : Operand}
/-- append of what lies in a new block, to a row that lies from base on -/
theorem app_litB (el : Elt P T E size bytes) (hgd : o.guard = none)
    (ho : o.op = .call { callee := .builtin .append, args := #[s, x], argTypes := #[T, T] }) (hO : wr.ownsRow base E size v n xs) (hbase : base ≤ wr.heap.size) (hs : a.eval s = v)
    {m c g : Nat} (hx : a.eval x = .slice (some ⟨g, 0, none⟩) m c) (hg : g = wr.heap.size) (hl : C.length = m * size) (h1 : ∀ u ∈ C, u.oneCell' = true) (hn : n + m ≤ 1099511627776)
    (h : ∀ v' w', w'.ownsRow base E size v' (n + m) (xs ++ C) → Kp (· ≠ E) wr w' → Below base wr w' → wpList P ops Q rest (a.put o.dst v') w') : wpList P ops Q (o :: rest) a (wr.alloc (.cells C.toArray t)) := by
  subst hg
  obtain ⟨i, z, hi, hz, hsize, hby, hzs⟩ := el.info
  have hb : (n + m) * bytes ≤ 1099511627776 * 128 := Nat.mul_le_mul hn el.small
  have hA : (wr.alloc (.cells C.toArray t)).ownsRow base E size v n xs := hO.alloc _
  refine wpList_append_own _ hgd s x T ho base E i z size bytes el.ht hi hz hsize hby hzs el.pos v n xs hs hA ⟨wr.heap.size, 0, none⟩ m c C hx hl (cells_new wr C t) h1 (by unfold maxLen; omega) (by omega) (by simp; omega) ?_
  intro v' w' hown hg _
  refine h v' w' hown (((Kp.refl _ wr).alloc _).grown hg fun q hg' t' ht hne => hne (by rw [own_typ' hA hg'] at ht; exact (Option.some.inj ht).symm)) ?_
  exact (((Out.refl (fun k => base ≤ k) wr).alloc _).grown hg fun k hk' _ => (hA.lt k hk').1).to_below (fun k hk _ h => by omega) hbase
end
theorem owns_ex {w : World} {base n size : Nat} {T : TypeId} {v : Value} {xs : List Value} (h : w.ownsRow base T size v n xs) : ∃ a c, v = .slice a n c := by
  rcases h.2 with ⟨rfl, rfl⟩ | ⟨g, c, _, rfl, _⟩
  · exact ⟨_, _, rfl⟩
  · exact ⟨_, _, rfl⟩
/-- a program in the making, in the block pb; its rows lie above -/
structure EvB (pb : Nat) (k R : Int) (L : List Ins) (O : List Int) (w : World) : Prop where
  ty : typOf w pb = some 27
  fr : Free w pb
  c0 : w.cell? ⟨pb, 0, none⟩ = some (.int .i64 k)
  c1 : w.cell? ⟨pb, 1, none⟩ = some (.int .i64 R)
  code : ∃ v, w.cell? ⟨pb, 2, none⟩ = some v ∧ w.ownsRow (pb + 1) 39 5 v L.length (pcel L)
  outs : ∃ v, w.cell? ⟨pb, 3, none⟩ = some v ∧ w.ownsRow (pb + 1) 3 1 v O.length (icel O)
/-- what the adding of instructions leaves -/
structure Fr (pb : Nat) (w w' : World) : Prop where
  kp : Kp (fun t => t ≠ 39 ∧ t ≠ 27) w w'
  bel : Below pb w w'
theorem Fr.refl (pb : Nat) (w : World) : Fr pb w w := ⟨Kp.refl _ _, Below.refl _ _⟩
theorem Fr.trans {pb : Nat} {a b c : World} (h : Fr pb a b) (k : Fr pb b c) : Fr pb a c := ⟨h.kp.trans k.kp, h.bel.trans k.bel⟩
theorem Fr.below {pb : Nat} {a b c : World} (h : Fr pb a b) (k : Below b.heap.size b c) (hp : pb ≤ b.heap.size) : Fr pb a c := ⟨h.kp.below k, h.bel.trans (k.mono hp)⟩
theorem bkeepN {B : Nat} {W w1 : World} (hb : Below B W w1) {p : Addr} {v : Value} (h : W.cell? p = some v) (hp : p.block < B) : w1.cell? p = some v := by
  unfold World.cell? at h ⊢
  rw [hb.block _ hp]
  exact h
theorem EvB.below {pb : Nat} {k R : Int} {L : List Ins} {O : List Int} {w w' : World} (h : EvB pb k R L O w) (hb : Below w.heap.size w w') : EvB pb k R L O w' := by
  obtain ⟨v, hv, hr⟩ := h.code
  obtain ⟨u, hu, hs⟩ := h.outs
  exact ⟨typ_keep h.ty hb, h.fr.keep hb, bkeep hb h.c0, bkeep hb h.c1, ⟨v, bkeep hb hv, owns_kp (S := fun _ => True) hr (Kp.of_below _ hb) trivial⟩, ⟨u, bkeep hb hu, owns_kp (S := fun _ => True) hs (Kp.of_below _ hb) trivial⟩⟩
/-- the code's row becomes another -/
theorem EvB.put {pb : Nat} {k R : Int} {L M : List Ins} {O : List Int} {w w' : World} {v : Value} (h : EvB pb k R L O w) (hr : w'.ownsRow (pb + 1) 39 5 v M.length (pcel M)) (hk : Kp (· ≠ 39) w w') (hb : Below (pb + 1) w w') :
    EvB pb k R M O (w'.setCell ⟨pb, 2, none⟩ v) ∧ Fr pb w (w'.setCell ⟨pb, 2, none⟩ v) := by
  obtain ⟨v0, hv0, _⟩ := h.code
  obtain ⟨u, hu, hs⟩ := h.outs
  have hlt : pb < pb + 1 := Nat.lt_succ_self _
  have hty := hk.typ h.ty (by decide)
  have hnb : ∀ {x : Value} {T : TypeId} {size n : Nat} {xs : List Value}, w'.ownsRow (pb + 1) T size x n xs → (w'.setCell ⟨pb, 2, none⟩ v).ownsRow (pb + 1) T size x n xs := fun hO => ownsRow_setCell_other hO (fun hb => by have h := (hO.lt _ hb).1; dsimp only at h; omega) v
  refine ⟨⟨by rw [typ_set]; exact hty, ?_, ?_, ?_, ⟨v, cell_here (bkeepN hb hv0 hlt) _, hnb hr⟩, ⟨u, cell_far (bkeepN hb hu hlt) (by simp) _, hnb (owns_kp hs hk (by decide))⟩⟩, ?_, ?_⟩
  · refine Free.set ⟨Nat.lt_of_lt_of_le h.fr.1 hb.size, fun j => ?_⟩ _ _
    rw [World.frozen?_of_block (w := w) (hb.block pb hlt)]; exact h.fr.2 j
  · exact cell_far (bkeepN hb h.c0 hlt) (by simp) _
  · exact cell_far (bkeepN hb h.c1 hlt) (by simp) _
  · refine (hk.weak fun t ht => ht.1).set (fun t ht hs => ?_) _
    rw [hty] at ht
    exact hs.2 (Option.some.inj ht).symm
  · exact (hb.mono (Nat.le_succ _)).setCell (Nat.le_refl _) _
theorem pcel_app (L M : List Ins) : pcel (L ++ M) = pcel L ++ pcel M := by simp [pcel]
theorem EvB.ext {pb : Nat} {k R : Int} {L M : List Ins} {O : List Int} {w : World} (h : EvB pb k R L O w) (e : L = M) : EvB pb k R M O w := e ▸ h
set_option maxRecDepth 100000 in
set_option maxHeartbeats 8000000 in
theorem add_c (pb : Nat) (k R : Int) (L : List Ins) (O : List Int) (i : Ins) (w : World) (h : EvB pb k R L O w) (hl : L.length ≤ 100000) :
    Calls Tryz.prog 36 #[i.v, .pointer (some ⟨pb, 0, none⟩)] w fun e w' => e = .returned (.tuple #[]) ∧ EvB pb k R (L ++ addI i) O w' ∧ Fr pb w w' := by
  obtain ⟨op, t, ia, ib, ic⟩ := i
  have hB := Below.refl w.heap.size w
  have HE := Lib.hid h
  simp only [Ins.v]
  by_cases hno : op = 1 ∧ t = ia
  · have HI := Lib.hid (show addI ⟨op, t, ia, ib, ic⟩ = [] from if_pos hno)
    obtain ⟨rfl, rfl⟩ := hno
    go_enter Tryz.func36, Tryz.ntmps36
    go_wp2
    refine bodyPost_end (v := .tuple #[]) (by simp [results, Tryz.results36, go_sem]) rfl ?_
    exact ⟨rfl, by rw [HI.out, List.append_nil]; exact HE.out.below (by repeat (first | exact Below.refl _ _ | exact hB | refine Below.drew ?_ | refine below_drewN ?_ _ | refine bset ?_ (by simp <;> omega) _ | refine bal ?_ _)), (Fr.refl pb w).below (by repeat (first | exact Below.refl _ _ | exact hB | refine Below.drew ?_ | refine below_drewN ?_ _ | refine bset ?_ (by simp <;> omega) _ | refine bal ?_ _)) (Nat.le_of_lt HE.out.fr.1)⟩
  · have HI := Lib.hid (show addI ⟨op, t, ia, ib, ic⟩ = [⟨op, t, ia, ib, ic⟩] from if_neg hno)
    obtain ⟨v, p2, hr⟩ := h.code
    obtain ⟨va, vc, rfl⟩ := owns_ex hr
    have p2f := h.fr.2 2
    have hpb := h.fr.1
    have HR := Lib.hid hr
    have HL := Lib.hid (show L.length + 1 ≤ 1099511627776 by omega)
    have HP := Lib.hid (show ∀ w1 v' w', Below w.heap.size w w1 → w'.ownsRow (pb + 1) 39 5 v' (L.length + 1) (pcel L ++ [.int .i64 op, .int .i64 t, .int .i64 ia, .int .i64 ib, .int .i64 ic]) → Kp (· ≠ 39) w1 w' → Below (pb + 1) w1 w' → EvB pb k R (L ++ addI ⟨op, t, ia, ib, ic⟩) O (w'.setCell ⟨pb, 2, none⟩ v') ∧ Fr pb w (w'.setCell ⟨pb, 2, none⟩ v') from fun w1 v' w' h1 h2 h3 h4 => by
      have h5 := (HE.out.below h1).put (M := L ++ [⟨op, t, ia, ib, ic⟩]) (v := v') (by rw [pcel_app, List.length_append]; exact h2) h3 h4
      rw [HI.out]
      exact ⟨h5.1, ((Fr.refl pb w).below h1 (Nat.le_of_lt hpb)).trans h5.2⟩)
    have zp := cell_lt p2
    have hzp : pb < w.heap.size + 1 := by omega
    have hop : (op != 1) = true ∨ ((op != 1) = false ∧ (t != ia) = true) := by
      by_cases e : op = 1
      · exact .inr ⟨by simpa using e, by simpa using fun e2 => hno ⟨e, e2⟩⟩
      · exact .inl (by simpa using e)
    clear hr h hno HE HI
    rcases hop with h1 | ⟨h1, h2⟩
    all_goals
      go_enter Tryz.func36, Tryz.ntmps36
      go_wp2_with (at_builtin; refine app_litB (base := pb + 1) (v := .slice va L.length vc) (n := L.length) (xs := pcel L) (g := w.heap.size + 1) (m := 1) (c := 1) (C := [.int .i64 op, .int .i64 t, .int .i64 ia, .int .i64 ib, .int .i64 ic]) elP (by rfl) (by rfl) ?_ ?_ (by rfl) (by rfl) ?_ rfl (pcel_one [⟨op, t, ia, ib, ic⟩]) HL.out ?_; (exact owns_kp (S := fun _ => True) HR.out (Kp.of_below _ (bal hB _)) trivial); (simp; omega); (simp))
      intro v' w8 hO hK hBe
      obtain ⟨va2, vc2, rfl⟩ := owns_ex hO
      have HF := Lib.hid (HP.out _ (.slice va2 (L.length + 1) vc2) w8 (by repeat (first | exact Below.refl _ _ | exact hB | refine Below.drew ?_ | refine below_drewN ?_ _ | refine bset ?_ (by simp <;> omega) _ | refine bal ?_ _)) hO hK hBe)
      have p8 := bkeepN hBe (show _ = some (.slice va L.length vc) from bkeep (show Below w.heap.size w _ by repeat (first | exact Below.refl _ _ | exact hB | refine Below.drew ?_ | refine below_drewN ?_ _ | refine bset ?_ (by simp <;> omega) _ | refine bal ?_ _)) p2) (Nat.lt_succ_self pb)
      have p8f : w8.frozen? ⟨pb, 2, none⟩ = false := by
        rw [World.frozen?_of_block (w := _) (hBe.block pb (Nat.lt_succ_self pb))]
        exact bkeepf (show Below w.heap.size w _ by repeat (first | exact Below.refl _ _ | exact hB | refine Below.drew ?_ | refine below_drewN ?_ _ | refine bset ?_ (by simp <;> omega) _ | refine bal ?_ _)) p2 p2f
      clear hO hK hBe HP HR
      go_wp2
      refine bodyPost_end (v := .tuple #[]) (by simp [results, Tryz.results36, go_sem]) rfl ?_
      exact ⟨rfl, HF.out.1, HF.out.2⟩
end Go.Proofs.YtdllbdfchloijaaGreatDoor

/- eval: Program's scaled: so many powers of a number. -/
namespace Go.Proofs.YtdllbdfchloijaaGreatDoor
open Num
open Go.ChangeShapes Go.WideShapes Go.ChangeAt Go.RowKit
set_option linter.unusedVariables false
set_option linter.unusedSimpArgs false
attribute [local go_sem ↓] Go.wp_at_zero Go.wp_at_succ
/-- the function value that adds -/
def addV (pb : Nat) : Value := .func (.func 36) #[] #[.pointer (some ⟨pb, 0, none⟩)]
/-- the table of trailing noughts lies ahead of the program in the making -/
def TzAt (pb : Nat) (w : World) : Prop := Tz64 w ∧ 1 < pb
theorem TzAt.keep {pb : Nat} {w w' : World} (h : TzAt pb w) (hb : Below w.heap.size w w') : TzAt pb w' := ⟨h.1.keep hb, h.2⟩
theorem TzAt.fr {pb : Nat} {w w' : World} (h : TzAt pb w) (hb : Fr pb w w') : TzAt pb w' := ⟨fun j hj => bkeepN hb.bel (h.1 j hj) h.2, h.2⟩
theorem scaledL_succ (t : Int) {n j : Nat} (h : j < n) (a c : Int) : scaledL t (n - j) a c = addI (timesI t a c) ++ scaledL t (n - (j + 1)) t c := by
  obtain ⟨m, hm⟩ : ∃ m, n - j = m + 1 := ⟨n - j - 1, by omega⟩
  rw [hm, show n - (j + 1) = m by omega]; rfl
set_option maxRecDepth 100000 in
set_option maxHeartbeats 8000000 in
theorem scaled_c (pb fb : Nat) (k R : Int) (L : List Ins) (O : List Int) (t a c : Int) (n : Nat) (w : World) (h : EvB pb k R L O w) (hf : w.cell? ⟨fb, 0, none⟩ = some (addV pb)) (hft : typOf w fb = some 80) (hc : Smn c) (hT : TzAt pb w) (hn : n ≤ 100) (hl : L.length ≤ 10000) :
    Calls Tryz.prog 37 #[.int .i64 t, .int .i64 a, .int .i64 c, .int .i64 n, .pointer (some ⟨fb, 0, none⟩)] w fun e w' => e = .returned (.tuple #[]) ∧ EvB pb k R (L ++ scaledL t n a c) O w' ∧ Fr pb w w' := by
  have HE := Lib.hid h
  have HF := Lib.hid (show ∀ W, Fr pb w W → W.cell? ⟨fb, 0, none⟩ = some (addV pb) from fun W q => q.kp.cell hft (by decide) hf)
  have HT := Lib.hid hT
  have HC := Lib.hid hc
  clear h hf hft hT hc
  go_enter Tryz.func37, Tryz.ntmps37
  go_wp2
  go_loopw [1, 10] (fun a' x wr => ∃ (j : Nat) (ai : Int) (Lj : List Ins), j ≤ n ∧ x = .int .i64 j ∧ a' = .int .i64 ai ∧ Hid (EvB pb k R Lj O wr) ∧ Hid (Lj ++ scaledL t (n - j) ai c = L ++ scaledL t n a c ∧ Lj.length ≤ L.length + j) ∧ Hid (Fr pb w wr)) (fun _ x _ => n - (intOf x).toNat)
  case atStart => exact ⟨0, a, L, Nat.zero_le _, rfl, rfl, HE, Lib.hid ⟨by rw [Nat.sub_zero], by omega⟩, Lib.hid (Fr.refl _ _)⟩
  case round =>
    obtain ⟨j, ai, Lj, hj, rfl, rfl, hE, hL, hR⟩ := hrel
    by_cases hlt : j < n
    · have hltI : (j : Int) < (n : Int) := by omega
      have f0 := HF.out wr hR.out
      unfold addV at f0
      have HS := Lib.hid (show ∀ V, Below wr.heap.size wr V → V.cell? ⟨fb, 0, none⟩ = some (.func (.func 36) #[] #[.pointer (some ⟨pb, 0, none⟩)]) from fun V q => bkeep q f0)
      have TC := Lib.hid (fun V (q : Below wr.heap.size wr V) => timesI_c t ai c V HC.out ((HT.out.fr hR.out).keep q).1)
      have AC := Lib.hid (fun V (q : Below wr.heap.size wr V) => add_c pb k R Lj O (timesI t ai c) V (hE.out.below q) (by have := hL.out.2; omega))
      have HL1 := Lib.hid (show (Lj ++ addI (timesI t ai c)) ++ scaledL t (n - (j + 1)) t c = L ++ scaledL t n a c ∧ (Lj ++ addI (timesI t ai c)).length ≤ L.length + (j + 1) from ⟨by rw [List.append_assoc, ← scaledL_succ t hlt, hL.out.1], by
        have h1 := hL.out.2
        have h2 := addI_le (timesI t ai c)
        rw [List.length_append]; omega⟩)
      have HPB := Lib.hid (show pb ≤ wr.heap.size from Nat.le_of_lt hE.out.fr.1)
      obtain ⟨iv, hiv⟩ : ∃ i, (timesI t ai c).v = i := ⟨_, rfl⟩
      rw [hiv] at TC AC
      have zf := cell_lt f0
      have hBc := Below.refl wr.heap.size wr
      have HLT := Lib.hid hlt
      clear hL hE hlt hiv
      go_wp2
      go_region_held3 (fun V => V.cell? ⟨fb, 0, none⟩ = some (.func (.func 36) #[] #[.pointer (some ⟨pb, 0, none⟩)]))
        (first | (refine HS.out _ ?_; (repeat (first | exact Below.refl _ _ | exact hBc | refine Below.drew ?_ | refine below_drewN ?_ _ | refine bset ?_ (by simp <;> omega) _ | refine bal ?_ _)); done) | exact hfc | fail)
        (first
          | (go_at_call 38; refine (TC.out _ ?_).mono ?_; (repeat (first | exact Below.refl _ _ | exact hBc | refine Below.drew ?_ | refine below_drewN ?_ _ | refine bset ?_ (by simp <;> omega) _ | refine bal ?_ _)); rintro e w5 ⟨rfl, hb5⟩; (have hBd : Below wr.heap.size wr w5 := bthen (by repeat (first | exact Below.refl _ _ | exact hBc | refine Below.drew ?_ | refine below_drewN ?_ _ | refine bset ?_ (by simp <;> omega) _ | refine bal ?_ _)) hb5; clear hBc; have hBc := hBd; clear hBd))
          | (go_at_call 36; refine (AC.out _ ?_).mono ?_; (repeat (first | exact Below.refl _ _ | exact hBc | refine Below.drew ?_ | refine below_drewN ?_ _ | refine bset ?_ (by simp <;> omega) _ | refine bal ?_ _)); rintro e w6 ⟨rfl, hE6, hF6⟩; have HE6 := Lib.hid hE6; have HF6 := Lib.hid ((hR.out.below (show Below wr.heap.size wr _ by repeat (first | exact Below.refl _ _ | exact hBc | refine Below.drew ?_ | refine below_drewN ?_ _ | refine bset ?_ (by simp <;> omega) _ | refine bal ?_ _)) HPB.out).trans hF6); have hfc := HF.out w6 HF6.out; unfold addV at hfc; clear hE6 hF6)
          | fail)
      all_goals
        have hl := HLT.out
        go_wp2
        exact ⟨⟨j + 1, t, _, hl, by go_num, rfl, HE6, HL1, HF6⟩, measE hl (by go_num) rfl⟩
    · obtain rfl : n = j := by omega
      have hltI : ¬ (n : Int) < (n : Int) := by omega
      go_wp2
      refine bodyPost_end (v := .tuple #[]) (by simp [results, Tryz.results37, go_sem]) rfl ?_
      have e := hL.out.1
      rw [Nat.sub_self] at e
      refine ⟨rfl, ?_, hR.out⟩
      rw [← e]
      show EvB pb k R (Lj ++ []) O wr
      rw [List.append_nil]
      exact hE.out
theorem add_l (pb : Nat) (k R : Int) (L : List Ins) (O : List Int) (op t a b c : Int) (w : World) (h : EvB pb k R L O w) (hl : L.length ≤ 100000) :
    Calls Tryz.prog 36 #[.agg #[.int .i64 op, .int .i64 t, .int .i64 a, .int .i64 b, .int .i64 c], .pointer (some ⟨pb, 0, none⟩)] w fun e w' => e = .returned (.tuple #[]) ∧ EvB pb k R (L ++ addI ⟨op, t, a, b, c⟩) O w' ∧ Fr pb w w' := add_c pb k R L O ⟨op, t, a, b, c⟩ w h hl
theorem scaled_z (pb fb : Nat) (k R : Int) (L : List Ins) (O : List Int) (t a c N : Int) (n : Nat) (w : World) (h : EvB pb k R L O w) (hf : w.cell? ⟨fb, 0, none⟩ = some (.func (.func 36) #[] #[.pointer (some ⟨pb, 0, none⟩)])) (hft : typOf w fb = some 80) (hc : Smn c) (hT : TzAt pb w) (hn : n ≤ 100) (hl : L.length ≤ 10000) (hN : N = (n : Int)) :
    Calls Tryz.prog 37 #[.int .i64 t, .int .i64 a, .int .i64 c, .int .i64 N, .pointer (some ⟨fb, 0, none⟩)] w fun e w' => e = .returned (.tuple #[]) ∧ EvB pb k R (L ++ scaledL t n a c) O w' ∧ Fr pb w w' := by
  subst hN
  exact scaled_c pb fb k R L O t a c n w h hf hft hc hT hn hl
end Go.Proofs.YtdllbdfchloijaaGreatDoor

/- eval: Program: the program that evaluates. -/
namespace Go.Proofs.YtdllbdfchloijaaGreatDoor
open Pt
open Num
open Go.ChangeShapes Go.WideShapes Go.ChangeAt Go.RowKit
set_option linter.unusedVariables false
set_option linter.unusedSimpArgs false
attribute [local go_sem ↓] Go.wp_at_zero Go.wp_at_succ
theorem owns_set1 {w : World} {base n i g cap : Nat} {e : TypeId} {xs : List Value} (h : w.ownsRow base e 1 (.slice (some ⟨g, 0, none⟩) n cap) n xs) (u : Value) : (w.setCell ⟨g, i, none⟩ u).ownsRow base e 1 (.slice (some ⟨g, 0, none⟩) n cap) n (xs.set i u) := by
  refine ⟨by rw [List.length_set]; exact h.1, .inr ?_⟩
  rcases h.2 with ⟨hv, _⟩ | ⟨g', cap', cur, hv, hg, hh, h1, h2, h3, h4⟩
  · cases hv
  · cases hv
    refine ⟨g, cap, cur.setIfInBounds i u, rfl, hg, ?_, h1, h2, by simpa using h3, ?_⟩
    · simp [World.setCell, Array.getElem?_modify, hh]
    · rw [← h4]; simp [List.take_set]
/-- the outs' row becomes another -/
theorem EvB.putO {pb : Nat} {k R : Int} {L : List Ins} {O N : List Int} {w w' : World} {v : Value} (h : EvB pb k R L O w) (hr : w'.ownsRow (pb + 1) 3 1 v N.length (icel N)) (hk : Kp (· ≠ 3) w w') (hb : Below (pb + 1) w w') :
    EvB pb k R L N (w'.setCell ⟨pb, 3, none⟩ v) ∧ Kp (fun t => t ≠ 3 ∧ t ≠ 27) w (w'.setCell ⟨pb, 3, none⟩ v) ∧ Below pb w (w'.setCell ⟨pb, 3, none⟩ v) := by
  obtain ⟨v0, hv0, hs⟩ := h.code
  obtain ⟨u, hu, _⟩ := h.outs
  have hlt : pb < pb + 1 := Nat.lt_succ_self _
  have hty := hk.typ h.ty (by decide)
  have hnb : ∀ {x : Value} {T : TypeId} {size n : Nat} {xs : List Value}, w'.ownsRow (pb + 1) T size x n xs → (w'.setCell ⟨pb, 3, none⟩ v).ownsRow (pb + 1) T size x n xs := fun hO => ownsRow_setCell_other hO (fun hb => by have h := (hO.lt _ hb).1; dsimp only at h; omega) v
  refine ⟨⟨by rw [typ_set]; exact hty, ?_, ?_, ?_, ⟨v0, cell_far (bkeepN hb hv0 hlt) (by simp) _, hnb (owns_kp hs hk (by decide))⟩, ⟨v, cell_here (bkeepN hb hu hlt) _, hnb hr⟩⟩, ?_, ?_⟩
  · refine Free.set ⟨Nat.lt_of_lt_of_le h.fr.1 hb.size, fun j => ?_⟩ _ _
    rw [World.frozen?_of_block (w := w) (hb.block pb hlt)]; exact h.fr.2 j
  · exact cell_far (bkeepN hb h.c0 hlt) (by simp) _
  · exact cell_far (bkeepN hb h.c1 hlt) (by simp) _
  · refine (hk.weak fun t ht => ht.1).set (fun t ht hs => ?_) _
    rw [hty] at ht
    exact hs.2 (Option.some.inj ht).symm
  · exact (hb.mono (Nat.le_succ _)).setCell (Nat.le_refl _) _
theorem icel_app (L M : List Int) : icel (L ++ M) = icel L ++ icel M := by simp [icel]
theorem icel_set (L : List Int) (i : Nat) (x : Int) : (icel L).set i (.int .i64 x) = icel (L.set i x) := by simp [icel, List.map_set]
/-- one of the outs becomes another -/
theorem EvB.setO {pb i g cap : Nat} {k R x : Int} {L : List Ins} {O : List Int} {w : World} (h : EvB pb k R L O w) (hc : w.cell? ⟨pb, 3, none⟩ = some (.slice (some ⟨g, 0, none⟩) O.length cap)) :
    EvB pb k R L (O.set i x) (w.setCell ⟨g, i, none⟩ (.int .i64 x)) ∧ Kp (fun t => t ≠ 3 ∧ t ≠ 27) w (w.setCell ⟨g, i, none⟩ (.int .i64 x)) ∧ Below pb w (w.setCell ⟨g, i, none⟩ (.int .i64 x)) ∧ typOf w g = some 3 ∧ pb < g := by
  obtain ⟨v0, hv0, hs⟩ := h.code
  obtain ⟨u, hu, ho⟩ := h.outs
  rw [hc] at hu
  cases hu
  have hg : pb + 1 ≤ g := (ho.lt g rfl).1
  have hty : typOf w g = some 3 := own_typ' ho rfl
  have hne : ∀ o : Nat, (⟨g, i, none⟩ : Addr) ≠ ⟨pb, o, none⟩ := fun o e => by cases e; omega
  have hcode : v0.ownBlock ≠ some g := fun e => by
    have := own_typ' hs e
    rw [hty] at this
    exact absurd this (by decide)
  refine ⟨⟨by rw [typ_set]; exact h.ty, h.fr.set _ _, cell_far h.c0 (hne 0) _, cell_far h.c1 (hne 1) _, ⟨v0, cell_far hv0 (hne 2) _, ownsRow_setCell_other hs hcode _⟩, ⟨_, cell_far hc (hne 3) _, ?_⟩⟩, ?_, ?_, hty, hg⟩
  · rw [List.length_set, ← icel_set]
    exact owns_set1 ho _
  · refine (Kp.refl _ _).set (fun t ht hs => ?_) _
    dsimp only at ht
    rw [hty] at ht
    exact hs.1 (Option.some.inj ht).symm
  · exact (Below.refl _ _).setCell (by dsimp only; omega) _
/-- Program at work: so many points are done -/
structure EvS (w : World) (pb fb k n : Nat) (f : Nat → Int × Int) (i : Nat) (wr : World) : Prop where
  ev : EvB pb k ((k + n + 1 : Nat) : Int) (codeL k n f i) (outsL k i) wr
  fn : wr.cell? ⟨fb, 0, none⟩ = some (addV pb)
  ft : typOf wr fb = some 80
  bel : Below w.heap.size w wr
  lo : w.heap.size < pb
  r0 : wr.cell? ⟨w.heap.size, 0, none⟩ = some (.int .i64 0)
  r1 : wr.cell? ⟨w.heap.size, 1, none⟩ = some (.int .i64 0)
  r2 : wr.cell? ⟨w.heap.size, 2, none⟩ = some (.slice none 0 0)
  r3 : wr.cell? ⟨w.heap.size, 3, none⟩ = some (.slice none 0 0)
  rf : ∀ j, wr.frozen? ⟨w.heap.size, j, none⟩ = false
  tz : TzAt pb wr
/-- what Program's own stores leave -/
structure Fr2 (pb : Nat) (w w' : World) : Prop where
  kp : Kp (fun t => t ≠ 3 ∧ t ≠ 27 ∧ t ≠ 39) w w'
  bel : Below pb w w'
theorem Fr.fr2 {pb : Nat} {w w' : World} (h : Fr pb w w') : Fr2 pb w w' := ⟨h.kp.weak fun t ht => ⟨ht.2.2, ht.2.1⟩, h.bel⟩
theorem Fr2.trans {pb : Nat} {a b c : World} (h : Fr2 pb a b) (k : Fr2 pb b c) : Fr2 pb a c := ⟨h.kp.trans k.kp, h.bel.trans k.bel⟩
theorem Fr2.below {pb : Nat} {a b c : World} (h : Fr2 pb a b) (k : Below b.heap.size b c) (hp : pb ≤ b.heap.size) : Fr2 pb a c := ⟨h.kp.below k, h.bel.trans (k.mono hp)⟩
theorem Fr2.refl (pb : Nat) (w : World) : Fr2 pb w w := ⟨Kp.refl _ _, Below.refl _ _⟩
theorem EvS.next {w wr wq : World} {pb fb k n i : Nat} {f : Nat → Int × Int} (h : EvS w pb fb k n f i wr) (hf : Fr2 pb wr wq) (he : EvB pb k ((k + n + 1 : Nat) : Int) (codeL k n f (i + 1)) (outsL k (i + 1)) wq) : EvS w pb fb k n f (i + 1) wq where
  ev := he
  fn := hf.kp.cell h.ft (by decide) h.fn
  ft := hf.kp.typ h.ft (by decide)
  bel := h.bel.trans (hf.bel.mono (Nat.le_of_lt h.lo))
  lo := h.lo
  r0 := bkeepN hf.bel h.r0 h.lo
  r1 := bkeepN hf.bel h.r1 h.lo
  r2 := bkeepN hf.bel h.r2 h.lo
  r3 := bkeepN hf.bel h.r3 h.lo
  rf := fun j => by rw [World.frozen?_of_block (w := wr) (hf.bel.block _ h.lo)]; exact h.rf j
  tz := ⟨fun j hj => bkeepN hf.bel (h.tz.1 j hj) h.tz.2, h.tz.2⟩
theorem outsL_one (n : Nat) : (outsL 1 n ++ [((1 + n : Nat) : Int)]).set n 0 = outsL 1 (n + 1) := by
  rw [outsL_succ]
  have : (outsL 1 n).length = n := outsL_len 1 n
  rw [List.set_append_right _ _ (by omega), this, Nat.sub_self]
  rfl
theorem codeL_succ (k n : Nat) (f : Nat → Int × Int) (i : Nat) : codeL k n f (i + 1) = codeL k n f i ++ pointL k ((k + i : Nat) : Int) ((k + n : Nat) : Int) (f i) := rfl
end Go.Proofs.YtdllbdfchloijaaGreatDoor

/- eval: Program, walked. -/
namespace Go.Proofs.YtdllbdfchloijaaGreatDoor
open Pt
open Num
open Go.ChangeShapes Go.WideShapes Go.ChangeAt Go.RowKit
set_option linter.unusedVariables false
set_option linter.unusedSimpArgs false
attribute [local go_sem ↓] Go.wp_at_zero Go.wp_at_succ
set_option maxRecDepth 100000 in
set_option maxHeartbeats 8000000 in
theorem program_no (k : Int) (a : Option Addr) (n cap : Nat) (f : Nat → Int × Int) (w : World) (h : PtsV w a n cap f) (hn : n ≤ 4611686018427387904) (hno : ¬ (1 ≤ k ∧ k ≤ 8 ∧ PtsOk n f)) :
    Calls Tryz.prog 8 #[.int .i64 k, .slice a n cap] w fun e w' => e = .returned (.tuple #[.agg #[.int .i64 0, .int .i64 0, .slice none 0 0, .slice none 0 0], .int .i64 2]) ∧ Below w.heap.size w w' := by
  have hB := Below.refl w.heap.size w
  have HP := Lib.hid h
  have HN := Lib.hid hno
  clear h hno
  by_cases h1 : k < 1
  · have d1 : decide (k < 1) = true := decide_eq_true h1
    go_enter Tryz.func8, Tryz.ntmps8
    go_wp2
    go_step3
    go_wp2
    rw [Exit.noGoto_ret]
    refine bodyPost_ret (v := .tuple #[.agg #[.int .i64 0, .int .i64 0, .slice none 0 0, .slice none 0 0], .int .i64 2]) (by simp [results, Tryz.results8, go_sem, *]) rfl ⟨rfl, by repeat (first | exact Below.refl _ _ | exact hB | refine Below.drew ?_ | refine below_drewN ?_ _ | refine bset ?_ (by simp <;> omega) _ | refine bal ?_ _)⟩
  have d1 : decide (k < 1) = false := decide_eq_false h1
  by_cases h2 : 8 < k
  · have d2 : decide (8 < k) = true := decide_eq_true h2
    go_enter Tryz.func8, Tryz.ntmps8
    go_wp2
    go_step3
    go_wp2
    rw [Exit.noGoto_ret]
    refine bodyPost_ret (v := .tuple #[.agg #[.int .i64 0, .int .i64 0, .slice none 0 0, .slice none 0 0], .int .i64 2]) (by simp [results, Tryz.results8, go_sem, *]) rfl ⟨rfl, by repeat (first | exact Below.refl _ _ | exact hB | refine Below.drew ?_ | refine below_drewN ?_ _ | refine bset ?_ (by simp <;> omega) _ | refine bal ?_ _)⟩
  have d2 : decide (8 < k) = false := decide_eq_false h2
  have HF := Lib.hid (show ptsB n f = false from ptsB_no fun q => HN.out ⟨by omega, by omega, q⟩)
  have PC := Lib.hid (fun V (q : Below w.heap.size w V) => evPoints_c a n cap f V (HP.out.keep q) hn)
  rw [HF.out] at PC
  go_enter Tryz.func8, Tryz.ntmps8
  go_wp2
  go_step3
  go_wp2_with fail
  (with_reducible refine (PC.out _ ?_).mono ?_); (repeat (first | exact Below.refl _ _ | exact hB | refine Below.drew ?_ | refine below_drewN ?_ _ | refine bset ?_ (by simp <;> omega) _ | refine bal ?_ _))
  rintro e w1 ⟨rfl, hb1⟩
  have r0f : w1.frozen? ⟨w.heap.size, 0, none⟩ = false := bkeepf hb1 (v := .int .i64 0) (by simp [go_sem]) (by simp [go_sem])
  have r1f : w1.frozen? ⟨w.heap.size, 1, none⟩ = false := bkeepf hb1 (v := .int .i64 0) (by simp [go_sem]) (by simp [go_sem])
  have r2f : w1.frozen? ⟨w.heap.size, 2, none⟩ = false := bkeepf hb1 (v := .slice none 0 0) (by simp [go_sem]) (by simp [go_sem])
  have r3f : w1.frozen? ⟨w.heap.size, 3, none⟩ = false := bkeepf hb1 (v := .slice none 0 0) (by simp [go_sem]) (by simp [go_sem])
  have r0 : w1.cell? ⟨w.heap.size, 0, none⟩ = some (.int .i64 0) := bkc hb1
  have zr0 := cell_lt r0
  have r1 : w1.cell? ⟨w.heap.size, 1, none⟩ = some (.int .i64 0) := bkc hb1
  have r2 : w1.cell? ⟨w.heap.size, 2, none⟩ = some (.slice none 0 0) := bkc hb1
  have r3 : w1.cell? ⟨w.heap.size, 3, none⟩ = some (.slice none 0 0) := bkc hb1
  have hB : Below w.heap.size w w1 := bthen (by repeat (first | exact Below.refl _ _ | exact hB | refine Below.drew ?_ | refine below_drewN ?_ _ | refine bset ?_ (by simp <;> omega) _ | refine bal ?_ _)) hb1
  have hz : w.heap.size ≤ w1.heap.size := hB.size
  clear PC hb1
  go_wp2
  rw [Exit.noGoto_ret]
  refine bodyPost_ret (v := .tuple #[.agg #[.int .i64 0, .int .i64 0, .slice none 0 0, .slice none 0 0], .int .i64 2]) (by simp [results, Tryz.results8, go_sem, *]) rfl ⟨rfl, by repeat (first | exact Below.refl _ _ | exact hB | refine Below.drew ?_ | refine below_drewN ?_ _ | refine bset ?_ (by simp <;> omega) _ | refine bal ?_ _)⟩
/-- what Program answers where it is asked rightly -/
def ProgPost (k n : Nat) (f : Nat → Int × Int) (w : World) (e : Ending) (w' : World) : Prop :=
  (∃ ca cc oa oc, e = .returned (.tuple #[.agg #[.int .i64 (k : Int), .int .i64 ((k + n + 1 : Nat) : Int), .slice ca (codeL k n f n).length cc, .slice oa (outsL k n).length oc], .int .i64 0]) ∧ InsV w' ca cc (codeL k n f n) ∧ IntsV w' oa oc (outsL k n) ∧ FromA w.heap.size 39 w' ca ∧ FromA w.heap.size 3 w' oa) ∧ Below w.heap.size w w'
theorem codeL_le {k n : Nat} (f : Nat → Int × Int) (hk : 1 ≤ k) (hk8 : k ≤ 8) {i : Nat} (hi : i ≤ 15) : (codeL k n f i).length ≤ 660 := by
  have h1 := code_le k n f hk i
  have h2 : k * (k + 3) ≤ 8 * 11 := Nat.mul_le_mul hk8 (by omega)
  have h3 : i * (k * (k + 3)) ≤ 15 * (8 * 11) := Nat.mul_le_mul hi h2
  omega
theorem horn_le8 {k : Nat} (t term a b : Int) {s : Nat} (hs : s ≤ 8) : (hornL k t term a b s).length ≤ 60 := by
  have h1 := horn_le k t term a b s
  have h2 : s * (s + 5) ≤ 8 * 13 := Nat.mul_le_mul hs (by omega)
  omega
/-- the program at the loop's head, at first -/
theorem evS_new {w w1 : World} {k n : Nat} {f : Nat → Int × Int} (hb : Below w.heap.size w w1) (hlt : w.heap.size < w1.heap.size) (hT : Tz64 w)
    (r0 : w1.cell? ⟨w.heap.size, 0, none⟩ = some (.int .i64 0)) (r1 : w1.cell? ⟨w.heap.size, 1, none⟩ = some (.int .i64 0)) (r2 : w1.cell? ⟨w.heap.size, 2, none⟩ = some (.slice none 0 0)) (r3 : w1.cell? ⟨w.heap.size, 3, none⟩ = some (.slice none 0 0)) (rf : ∀ j, w1.frozen? ⟨w.heap.size, j, none⟩ = false) :
    EvS w w1.heap.size (w1.heap.size + 1) k n f 0 ((w1.alloc (.cells #[.int .i64 (k : Int), .int .i64 ((k + n + 1 : Nat) : Int), .slice none 0 0, .slice none 0 0] 27)).alloc (.cells #[addV w1.heap.size] 80)) := by
  have hb2 : Below w1.heap.size w1 ((w1.alloc (.cells #[.int .i64 (k : Int), .int .i64 ((k + n + 1 : Nat) : Int), .slice none 0 0, .slice none 0 0] 27)).alloc (.cells #[addV w1.heap.size] 80)) := bal (bal (Below.refl _ _) _) _
  have e1 : ∀ i v, (#[Value.int .i64 (k : Int), .int .i64 ((k + n + 1 : Nat) : Int), .slice none 0 0, .slice none 0 0] : Array Value)[i]? = some v → ((w1.alloc (.cells #[.int .i64 (k : Int), .int .i64 ((k + n + 1 : Nat) : Int), .slice none 0 0, .slice none 0 0] 27)).alloc (.cells #[addV w1.heap.size] 80)).cell? ⟨w1.heap.size, i, none⟩ = some v := fun i v h => cell_alloc (cell_new rfl h) _
  have hz : w1.heap.size < ((w1.alloc (.cells #[.int .i64 (k : Int), .int .i64 ((k + n + 1 : Nat) : Int), .slice none 0 0, .slice none 0 0] 27)).alloc (.cells #[addV w1.heap.size] 80)).heap.size := by simp; omega
  refine ⟨⟨?_, ?_, e1 0 _ rfl, e1 1 _ rfl, ⟨_, e1 2 _ rfl, World.ownsRow_nil _ _ _ _⟩, ⟨_, e1 3 _ rfl, World.ownsRow_nil _ _ _ _⟩⟩, cell_new (by simp) rfl, typ_fresh (by simp), hb.trans (hb2.mono (Nat.le_of_lt hlt)), hlt, bkeep hb2 r0, bkeep hb2 r1, bkeep hb2 r2, bkeep hb2 r3, fun j => ?_, ⟨(hT.keep hb).keep hb2, ?_⟩⟩
  · exact typ_keep (typ_fresh rfl) (bal (Below.refl _ _) _)
  · exact (Free.new rfl).keep (bal (Below.refl _ _) _)
  · rw [World.frozen?_of_block (w := w1) (hb2.block _ hlt)]; exact rf j
  · exact Nat.lt_of_lt_of_le (cell_lt (hT 0 (by decide))) (Nat.le_of_lt hlt)
end Go.Proofs.YtdllbdfchloijaaGreatDoor

/- eval: units; the reference's Units. -/
namespace Go.Proofs.YtdllbdfchloijaaGreatDoor
open Pt
open Num
open Go.ChangeShapes Go.WideShapes Go.ChangeAt Go.RowKit
set_option linter.unusedVariables false
set_option linter.unusedSimpArgs false
attribute [local go_sem ↓] Go.wp_at_zero Go.wp_at_succ
theorem unit_take {k i : Nat} (h : i < k) : (unitG k).take i ++ [(unitG k).getD i []] = (unitG k).take (i + 1) := by
  have hl : i < (unitG k).length := by rw [unitG_len]; exact h
  rw [List.take_succ_eq_append_getElem hl]
  simp [hl]
theorem unit_at {k i : Nat} (h : i < k) : ∀ j, j < k → (fun m => if m = i then (1 : Int) else 0) j = ((unitG k).getD i []).getD j 0 := fun j hj => by
  rw [unitG_row h]; simp [hj]
theorem unit_rl {k i : Nat} (h : i < k) : ((unitG k).getD i []).length = k := by rw [unitG_row h]; simp
/-- a row of a made block -/
theorem row_made {R : World → Value → Int → Prop} {E : TypeId} {w : World} {base g k : Nat} {F : Nat → Int} {l : List Int} (h : IntsF R w g 0 k F) (ht : typOf w g = some E) (hk : k ≤ maxLen) (hg : base ≤ g) (hl : l.length = k) (he : ∀ j, j < k → F j = l.getD j 0) : IsRow R E base w (.slice (some ⟨g, 0, none⟩) k k) l := by
  subst hl
  exact ⟨_, _, rfl, Nat.le_refl _, hk, .inr ⟨g, 0, rfl, hg, ht, h.congr he⟩⟩
set_option maxRecDepth 100000 in
set_option maxHeartbeats 8000000 in
theorem units_c (k : Nat) (w : World) (hk : k ≤ 8) :
    Calls Tryz.prog 46 #[.int .i64 (k : Int)] w fun e w' => (∃ v, e = .returned v ∧ OwnL 43 (PRow w.heap.size) w w' v (unitG k)) ∧ Below w.heap.size w w' := by
  have hmk := mkInts k (by omega)
  have oc := fun W => of_c 1 W (by decide) (by decide)
  have HU := Lib.hid (unitG_len k)
  have HP := Lib.hid (prs_row lims_int 50 w.heap.size)
  have hB := Below.refl w.heap.size w
  go_enter Tryz.func46, Tryz.ntmps46
  go_wp2
  go_loopw [3, 7] (fun v x wr => ∃ i : Nat, i ≤ k ∧ x = .int .i64 i ∧ Hid (OwnL 43 (PRow w.heap.size) w wr v ((unitG k).take i))) (fun _ x _ => k - (intOf x).toNat)
  case atStart => exact ⟨0, Nat.zero_le _, rfl, Lib.hid (OwnL.nil _ _ hB)⟩
  case round =>
    obtain ⟨i, hi, rfl, hO⟩ := hrel
    obtain ⟨va, vc, hv⟩ := hO.out.ex
    have hl : ((unitG k).take i).length = i := by rw [List.length_take, HU.out]; omega
    rw [hl] at hv
    subst hv
    by_cases hlt : i < k
    · have hltI : (i : Int) < (k : Int) := by omega
      have HLT := Lib.hid hlt
      have HT := Lib.hid (unit_take hlt)
      have HRL := Lib.hid (And.intro (unit_rl hlt) (unit_at hlt))
      obtain ⟨row, hrow⟩ : ∃ r, (unitG k).getD i [] = r := ⟨_, rfl⟩
      rw [hrow] at HT HRL
      clear hrow
      have hBr := hO.out.bel
      have hBq := Below.refl wr.heap.size wr
      clear hl
      go_wp2_with fail
      refine (oc _).mono ?_
      rintro e w5 ⟨⟨v5, rfl, hi5⟩, hb5⟩
      have hk5 : Below wr.heap.size wr w5 := bthen (by repeat (first | exact Below.refl _ _ | exact hBq | refine Below.drew ?_ | refine below_drewN ?_ _ | refine bset ?_ (by simp <;> omega) _ | refine bal ?_ _)) hb5
      have HI := IntsF.keep lims_int (zcel_ints isInt_zero wr k 50 rfl) hb5
      have HF := (Free.new (w := wr) (c := zcel k) (t := 50) rfl).keep hb5
      have HTy := typ_keep (typ_fresh (w := wr) (c := zcel k) (t := 50) rfl) hb5
      obtain ⟨zn, za, zl, zc, z0, z1, -⟩ := HI.at0 hlt
      have z0f := HF.2 (i * 2)
      have z1f := HF.2 (i * 2 + 1)
      have zz := cell_lt z0
      have HX := Lib.hid (show ∀ (n : Bool) a l c, IsInt w5 (.agg #[.bool n, .slice a l c]) 1 → OwnL 43 (PRow w.heap.size) w ((w5.setCell ⟨wr.heap.size, i * 2, none⟩ (.bool n)).setCell ⟨wr.heap.size, i * 2 + 1, none⟩ (.slice a l c)) (.slice va i vc) ((unitG k).take i) ∧ PRow w.heap.size ((w5.setCell ⟨wr.heap.size, i * 2, none⟩ (.bool n)).setCell ⟨wr.heap.size, i * 2 + 1, none⟩ (.slice a l c)) (.slice (some ⟨wr.heap.size, 0, none⟩) k k) row from fun n a l c h => by
        have hbb : Below wr.heap.size wr ((w5.setCell ⟨wr.heap.size, i * 2, none⟩ (.bool n)).setCell ⟨wr.heap.size, i * 2 + 1, none⟩ (.slice a l c)) := bset (bset hk5 (p := ⟨wr.heap.size, i * 2, none⟩) (Nat.le_refl _) _) (p := ⟨wr.heap.size, i * 2 + 1, none⟩) (Nat.le_refl _) _
        exact ⟨hO.out.below HP.out hbb, row_made (HI.store0 lims_int hlt h) (by rw [typ_set, typ_set]; exact HTy) (by unfold maxLen; omega) hBr.size HRL.out.1 HRL.out.2⟩)
      have HI5 := Lib.hid hi5
      obtain ⟨n5, a5, c5, l5, rfl, -⟩ := hi5
      unfold iv at *
      obtain ⟨hO6, hR6⟩ := HX.out _ _ _ _ HI5.out
      have HO6 := Lib.hid hO6
      have HR6 := Lib.hid hR6
      have HLL := Lib.hid (show ((unitG k).take i).length = i by rw [List.length_take, HU.out]; omega)
      clear hO6 hR6 HX hO HI HF HTy hb5 hk5 hBq
      go_wp2_with (at_builtin; refine appL elRow HP.out (by decide) (by rfl) (by rfl) (HO6.out.below HP.out (bal (Below.refl _ _) _)) (HP.out.kp HR6.out (Kp.of_below _ (bal (Below.refl _ _) _))) (by rfl) (by rfl) (cell_new (by simp) rfl) (by rw [HLL.out]; omega) (by rw [HLL.out]; unfold maxLen; omega) ?_)
      intro v8 w8 hO8 _
      have HO8 := Lib.hid hO8
      rw [HT.out] at HO8
      have hlK := HLT.out
      clear hO8 HO6 HR6
      go_wp2
      exact ⟨⟨i + 1, hlK, by go_num, HO8⟩, measS hlK (by go_num) rfl⟩
    · obtain rfl : i = k := by omega
      have hltI : ¬ (i : Int) < (i : Int) := by omega
      have HE := Lib.hid (show (unitG i).take i = unitG i by rw [← HU.out]; rw [HU.out]; exact List.take_of_length_le (by rw [HU.out]; exact Nat.le_refl _))
      rw [HE.out] at hO
      go_wp2
      go_ret
      exact ⟨⟨_, rfl, hO.out⟩, hO.out.bel⟩
end Go.Proofs.YtdllbdfchloijaaGreatDoor

/- matrix: rows that are written, each in a block of its own; the bits of elimination. -/
namespace Go.Proofs.YtdllbdfchloijaaGreatDoor
open Num
open Go.ChangeShapes Go.WideShapes Go.ChangeAt Go.RowKit
set_option linter.unusedVariables false
set_option linter.unusedSimpArgs false
/-- bits behind so many columns -/
def kb (K t : Nat) : Nat := (K + 1) * 2 ^ t - 1
/-- rows that may be written, each in a block of its own between base and top; their slices lie in the block B -/
structure RowsW (base top B n m : Nat) (w : World) (bs : Nat → Nat) (g : Nat → Nat → Int) : Prop where
  tB : typOf w B = some 43
  lo : base ≤ B
  hi : B < top
  fB : Free w B
  cell : ∀ i, i < n → ∃ c, w.cell? ⟨B, i, none⟩ = some (.slice (some ⟨bs i, 0, none⟩) m c)
  ty : ∀ i, i < n → typOf w (bs i) = some 50
  lob : ∀ i, i < n → base ≤ bs i
  hib : ∀ i, i < n → bs i < top
  fr : ∀ i, i < n → Free w (bs i)
  inj : ∀ i j, i < n → j < n → bs i = bs j → i = j
  num : ∀ i, i < n → IntsF IsInt w (bs i) 0 m (g i)
section
variable {base top B n m : Nat} {w w' : World} {bs : Nat → Nat} {g g' : Nat → Nat → Int}
theorem RowsW.congr (h : RowsW base top B n m w bs g) (e : ∀ r c, r < n → c < m → g r c = g' r c) : RowsW base top B n m w bs g' :=
  ⟨h.tB, h.lo, h.hi, h.fB, h.cell, h.ty, h.lob, h.hib, h.fr, h.inj, fun i hi => (h.num i hi).congr fun k hk => e i k hi hk⟩
theorem RowsW.out {X : Nat → Prop} (h : RowsW base top B n m w bs g) (ho : Out X w w') (hx : ∀ q, base ≤ q → q < top → ¬ X q) (hl : Lim w w') : RowsW base top B n m w' bs g := by
  have bB := hx B h.lo h.hi
  have bi : ∀ i, i < n → ¬ X (bs i) := fun i hi => hx _ (h.lob i hi) (h.hib i hi)
  refine ⟨by rw [typ_of_block (w := w) (ho.block B (typ_lt h.tB) bB)]; exact h.tB, h.lo, h.hi, h.fB.out ho bB, fun i hi => ?_, fun i hi => by rw [typ_of_block (w := w) (ho.block _ (typ_lt (h.ty i hi)) (bi i hi))]; exact h.ty i hi, h.lob, h.hib, fun i hi => (h.fr i hi).out ho (bi i hi), h.inj, fun i hi => (h.num i hi).out lims_int ho (bi i hi) hl⟩
  obtain ⟨c, hc⟩ := h.cell i hi
  exact ⟨c, okeep ho hc bB⟩
theorem RowsW.keep (h : RowsW base top B n m w bs g) (k : Below w.heap.size w w') : RowsW base top B n m w' bs g :=
  h.out (X := fun _ => False) (Out.of_below _ k) (fun _ _ _ hf => hf) (Lim.of_below k)
/-- one number is set -/
theorem RowsW.put (h : RowsW base top B n m w bs g) {i c : Nat} (hi : i < n) (hc : c < m) {nb : Bool} {a : Option Addr} {len cp : Nat} {z : Int} (hv : IsInt w (.agg #[.bool nb, .slice a len cp]) z) :
    RowsW base top B n m ((w.setCell ⟨bs i, c * 2, none⟩ (.bool nb)).setCell ⟨bs i, c * 2 + 1, none⟩ (.slice a len cp)) bs (fun r c' => if r = i ∧ c' = c then z else g r c') := by
  have hne : ∀ j, j < n → j ≠ i → bs i ≠ bs j := fun j hj hji e => hji (h.inj j i hj hi e.symm)
  have hBi : bs i ≠ B := fun e => by
    have h1 := h.ty i hi
    rw [e, h.tB] at h1
    exact absurd (Option.some.inj h1) (by decide)
  refine ⟨by rw [typ_set, typ_set]; exact h.tB, h.lo, h.hi, (h.fB.set _ _).set _ _, fun j hj => ?_, fun j hj => by rw [typ_set, typ_set]; exact h.ty j hj, h.lob, h.hib, fun j hj => ((h.fr j hj).set _ _).set _ _, h.inj, fun j hj => ?_⟩
  · obtain ⟨c0, hc0⟩ := h.cell j hj
    exact ⟨c0, cell_far (cell_far hc0 (addr_ne hBi) _) (addr_ne hBi) _⟩
  · by_cases e : j = i
    · subst e
      refine (IntsF.store0 lims_int (h.num j hj) hc hv).congr fun k hk => ?_
      by_cases e2 : k = c
      · subst e2; simp
      · simp [e2]
    · obtain ⟨nb0, a0, len0, c0, o0, o1, -⟩ := (h.num i hi).at0 hc
      exact (IntsF.far lims_int (h.num j hj) (hne j hj e) o0 o1 _ _).congr fun k hk => by rw [if_neg (fun hh => e hh.1)]
/-- two rows change places -/
theorem RowsW.swap (h : RowsW base top B n m w bs g) {i k : Nat} (hi : i < n) (hk : k < n) {ci ck : Nat} (hci : w.cell? ⟨B, i, none⟩ = some (.slice (some ⟨bs i, 0, none⟩) m ci)) (hck : w.cell? ⟨B, k, none⟩ = some (.slice (some ⟨bs k, 0, none⟩) m ck)) :
    RowsW base top B n m ((w.setCell ⟨B, i, none⟩ (.slice (some ⟨bs k, 0, none⟩) m ck)).setCell ⟨B, k, none⟩ (.slice (some ⟨bs i, 0, none⟩) m ci)) (fun r => if r = k then bs i else if r = i then bs k else bs r) (Det.swp g i k) := by
  have hk0 : Kp (fun t => t ≠ 43) w ((w.setCell ⟨B, i, none⟩ (.slice (some ⟨bs k, 0, none⟩) m ck)).setCell ⟨B, k, none⟩ (.slice (some ⟨bs i, 0, none⟩) m ci)) :=
    (((Kp.refl _ w).set (p := ⟨B, i, none⟩) (fun t ht => by rw [h.tB] at ht; cases ht; exact fun hh => hh rfl) _).set (p := ⟨B, k, none⟩) (fun t ht => by rw [typ_set, h.tB] at ht; cases ht; exact fun hh => hh rfl) _)
  have pick : ∀ r, r < n → ∃ r', r' < n ∧ (if r = k then bs i else if r = i then bs k else bs r) = bs r' ∧ (r' = if r = k then i else if r = i then k else r) := fun r hr => by
    by_cases e1 : r = k
    · exact ⟨i, hi, by rw [if_pos e1], by rw [if_pos e1]⟩
    · by_cases e2 : r = i
      · exact ⟨k, hk, by rw [if_neg e1, if_pos e2], by rw [if_neg e1, if_pos e2]⟩
      · exact ⟨r, hr, by rw [if_neg e1, if_neg e2], by rw [if_neg e1, if_neg e2]⟩
  refine ⟨by rw [typ_set, typ_set]; exact h.tB, h.lo, h.hi, (h.fB.set _ _).set _ _, fun r hr => ?_, fun r hr => ?_, fun r hr => ?_, fun r hr => ?_, fun r hr => ?_, fun r s hr hs e => ?_, fun r hr => ?_⟩
  · by_cases e1 : r = k
    · subst e1
      refine ⟨ci, ?_⟩
      rw [if_pos rfl]
      by_cases e2 : r = i
      · subst e2; exact cell_here (cell_here hci _) _
      · exact cell_here (cell_far hck (by simp <;> omega) _) _
    · by_cases e2 : r = i
      · subst e2
        refine ⟨ck, ?_⟩
        rw [if_neg e1, if_pos rfl]
        exact cell_far (cell_here hci _) (by simp <;> omega) _
      · obtain ⟨c, hc⟩ := h.cell r hr
        refine ⟨c, ?_⟩
        rw [if_neg e1, if_neg e2]
        exact cell_far (cell_far hc (by simp <;> omega) _) (by simp <;> omega) _
  · obtain ⟨r', h1, h2, -⟩ := pick r hr
    rw [h2, typ_set, typ_set]; exact h.ty r' h1
  · obtain ⟨r', h1, h2, -⟩ := pick r hr
    rw [h2]; exact h.lob r' h1
  · obtain ⟨r', h1, h2, -⟩ := pick r hr
    rw [h2]; exact h.hib r' h1
  · obtain ⟨r', h1, h2, -⟩ := pick r hr
    rw [h2]; exact ((h.fr r' h1).set _ _).set _ _
  · obtain ⟨r', h1, h2, h3⟩ := pick r hr
    obtain ⟨s', k1, k2, k3⟩ := pick s hs
    rw [h2, k2] at e
    have := h.inj r' s' h1 k1 e
    rw [h3, k3] at this
    by_cases a1 : r = k <;> by_cases a2 : r = i <;> by_cases a3 : s = k <;> by_cases a4 : s = i <;> simp only [a1, a2, a3, a4, if_true, if_false] at this ⊢ <;> first | omega | (split at this <;> omega)
  · obtain ⟨r', h1, h2, h3⟩ := pick r hr
    rw [h2]
    refine ((h.num r' h1).stay lims_int ?_ (hk0.lim (by decide))).congr fun c hc => ?_
    · exact hk0 _ _ (h.ty r' h1) (by decide)
    · unfold Det.swp
      rw [h3]
      by_cases a1 : r = k <;> by_cases a2 : r = i
      · rw [if_pos a1, if_pos a2]; rw [← a1, ← a2]
      · rw [if_pos a1, if_neg a2, if_pos a1]
      · rw [if_neg a1, if_pos a2, if_pos a2]
      · rw [if_neg a1, if_neg a2, if_neg a2, if_neg a1]
end
/-- a row in a block of its own, told with that block -/
def PRb (base : Nat) (w : World) (u : Value) (x : Nat × List Int) : Prop :=
  ∃ c, u = .slice (some ⟨x.1, 0, none⟩) x.2.length c ∧ base ≤ x.1 ∧ typOf w x.1 = some 50 ∧ Free w x.1 ∧ IntsF IsInt w x.1 0 x.2.length (fun k => x.2.getD k 0)
/-- small numbers in a list -/
def PInt (w : World) (u : Value) (x : Nat) : Prop := u = .int .i64 (x : Nat)
theorem prs_pint : Prs (fun _ => False) PInt := ⟨fun h => by cases h; rfl, fun h _ => h⟩
end Go.Proofs.YtdllbdfchloijaaGreatDoor

