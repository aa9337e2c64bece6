/- Texts of this seat, laid together: VmA, VmD, VmE, EvB, EvC, EvD, EvE, RefJ, RefK, RefL, VwA. Each opens with its own remark, which says what it proves, and under which conditions. -/
import Derived.Test.YtdllbdfchloijaaDoorR11
import Derived.Laws.AppendOwn
import Derived.Test.YtdllbdfchloijaaDoorR04
import Derived.Test.YtdllbdfchloijaaDoorR08
import Derived.OneCell
import Derived.Deep.DrawnRows
import Derived.Deep.RegionLaw
import Derived.Deep.Cut
import Derived.Deep.DeepCutAuto
import Derived.Test.YtdllbdfchloijaaDoorR10
import Derived.Test.YtdllbdfchloijaaDoorR03
import Derived.Deep.LoopGhost
import Derived.Test.YtdllbdfchloijaaDoorR06
import Derived.RegionTactic
import Derived.ChangeAlike
import Derived.Laws.OwnMore
import Derived.Deep.Onto
import Derived.Test.YtdllbdfchloijaaDoorR02
set_option linter.unusedVariables false
set_option linter.unusedSimpArgs false
/- slices.Clone at []integer.Int and at [][]integer.Int. -/
namespace Go.Proofs.YtdllbdfchloijaaDoor
open Num
open Go.ChangeShapes Go.WideShapes Go.ChangeAt Go.RowKit
set_option linter.unusedVariables false
set_option linter.unusedSimpArgs false
/-- what lies in a block from off on -/
def cellsAt (w : World) (b off m : Nat) : List Value := (List.range m).map fun j => (w.cell? ⟨b, off + j, none⟩).getD .nilFunc
theorem cellsAt_len (w : World) (b off m : Nat) : (cellsAt w b off m).length = m := by simp [cellsAt]
theorem cellsAt_get {w : World} {b off m j : Nat} {v : Value} (h : j < m) (hv : w.cell? ⟨b, off + j, none⟩ = some v) : (cellsAt w b off m)[j]? = some v := by simp [cellsAt, h, hv]
theorem cellsAt_lt {w : World} {b off m j : Nat} {v : Value} (h : (cellsAt w b off m)[j]? = some v) : j < m := by
  have := (List.getElem?_eq_some_iff.1 h).1
  rwa [cellsAt_len] at this
theorem cellsAt_at {w W : World} (hW : Below w.heap.size w W) {b off m : Nat} (hc : ∀ j, j < m → ∃ v, w.cell? ⟨b, off + j, none⟩ = some v) : ∀ j u, (cellsAt w b off m)[j]? = some u → W.cell? ((⟨b, off, none⟩ : Addr).add j) = some u := by
  intro j u hj
  have hl := cellsAt_lt hj
  obtain ⟨v, hv⟩ := hc j hl
  rw [cellsAt_get hl hv] at hj
  cases hj
  have := bkeep hW hv
  unfold Addr.add
  split
  · subst_vars; simpa using this
  · exact this
theorem cellsAt_all {w : World} {b off m : Nat} {p : Value → Prop} (hc : ∀ j, j < m → ∃ v, w.cell? ⟨b, off + j, none⟩ = some v ∧ p v) : ∀ u ∈ cellsAt w b off m, p u := by
  intro u hu
  obtain ⟨j, hj⟩ := List.mem_iff_getElem?.1 hu
  have hl := cellsAt_lt hj
  obtain ⟨v, hv, hp⟩ := hc j hl
  rw [cellsAt_get hl hv] at hj
  cases hj; exact hp
theorem intsF_cells {R : World → Value → Int → Prop} {w : World} {b off n : Nat} {f : Nat → Int} (h : IntsF R w b off n f) : ∀ j, j < n * 2 → ∃ v, w.cell? ⟨b, off + j, none⟩ = some v ∧ v.oneCell' = true := by
  intro j hj
  obtain ⟨nb, a, len, c, h1, h2, _⟩ := h (j / 2) (by omega)
  by_cases e : j % 2 = 0
  · exact ⟨_, by rw [show off + j = off + j / 2 * 2 by omega]; exact h1, rfl⟩
  · exact ⟨_, by rw [show off + j = off + j / 2 * 2 + 1 by omega]; exact h2, rfl⟩
theorem ownF_of_cells {R : World → Value → Int → Prop} (hR : Lims R) {E : TypeId} {w w' : World} {b off n : Nat} {f : Nat → Int} {v' : Value} (h : IntsF R w b off n f) (hb : Below w.heap.size w w') (hO : w'.ownsRow w.heap.size E 2 v' n (cellsAt w b off (n * 2))) : OwnF R E w w' v' n f := by
  refine ⟨_, ⟨hO, hb⟩, fun k hk => ?_⟩
  obtain ⟨nb, a, len, c, h1, h2, h3⟩ := h k hk
  exact ⟨nb, a, len, c, cellsAt_get (by omega) h1, cellsAt_get (by omega) h2, hR _ _ _ _ h3 (.of_below hb)⟩
set_option maxRecDepth 100000 in
set_option maxHeartbeats 1000000 in
theorem cloneRow_c (base : Nat) (v : Value) (l : List Int) (w : World) (hv : PRow base w v l) (h1 : l.length ≤ 1099511627776) :
    Calls Tryd.prog 19 #[v] w fun e w' => (∃ v', e = .returned v' ∧ RowO IsInt 31 w.heap.size w' v' l) ∧ Below w.heap.size w w' := by
  obtain ⟨a, ca, rfl, hlc, hcm, hl⟩ := hv
  have hB0 := Below.refl w.heap.size w
  have hq := fun w => Lib.run_eql_slice_nil w 27 31 a l.length ca 0 0 Tryd.underlying27
  cases a with
  | none =>
    obtain rfl : l = [] := by rcases hl with h | ⟨b, off, h, _⟩
                              · exact h
                              · cases h
    have hq2 : ∀ w, (binOp .eql 27 (.slice none 0 ca) (.slice none 0 0)).run Tryd.prog w = .ok (.bool true) w := hq
    clear hq hl
    go_enter Tryd.func19, Tryd.ntmps19
    go_wp2
    go_ret
    exact ⟨⟨_, rfl, RowO.nil _ _ _ _⟩, Below.refl _ _⟩
  | some ad =>
    obtain ⟨i0, z0, hi, hz0, hz1, hz2, hz3⟩ := elInt.info
    obtain ⟨xs, hx1, hx2, hx3, HX⟩ : ∃ xs : List Value, xs.length = l.length * 2 ∧ (∀ (W : World), Below w.heap.size w W → ∀ j u, xs[j]? = some u → W.cell? (ad.add j) = some u) ∧ (∀ u ∈ xs, u.oneCell' = true) ∧
        Hid (∀ v' w', Below w.heap.size w w' → w'.ownsRow w.heap.size 31 2 v' l.length xs → RowO IsInt 31 w.heap.size w' v' l) := by
      rcases hl with rfl | ⟨b, off, h, hb, ht, hi'⟩
      · refine ⟨[], by simp, fun W hW j u hj => by simp at hj, fun u hu => by simp at hu, Lib.hid fun v' w' hb' hO => ?_⟩
        have : OwnF IsInt 31 w w' v' ([] : List Int).length (fun k => ([] : List Int).getD k 0) := ⟨[], ⟨hO, hb'⟩, fun k hk => absurd hk (by simp)⟩
        exact this.rowO
      · cases h
        refine ⟨cellsAt w b off (l.length * 2), cellsAt_len _ _ _ _, fun W hW => cellsAt_at hW fun j hj => ?_, cellsAt_all (intsF_cells hi'), Lib.hid fun v' w' hb' hO => ?_⟩
        · obtain ⟨v, hv, _⟩ := intsF_cells hi' j hj; exact ⟨v, hv⟩
        · exact (ownF_of_cells lims_int hi' hb' hO).rowO
    clear hl
    have ho : (w.alloc (.cells #[] 31)).ownsRow w.heap.size 31 2 (.slice (some ⟨w.heap.size, 0, none⟩) 0 0) 0 [] := ⟨rfl, .inr ⟨w.heap.size, 0, #[], rfl, Nat.le_refl _, (MapKept.heap_alloc w _).1, Nat.le_refl _, by unfold maxLen; omega, rfl, rfl⟩⟩
    go_enter Tryd.func19, Tryd.ntmps19
    go_wp2_with (at_builtin; refine wpList_append_own _ rfl _ _ 27 rfl w.heap.size 31 i0 z0 2 32 Tryd.underlying27 hi hz0 hz1 hz2 hz3 (by decide) _ 0 [] rfl ho ad l.length ca xs rfl hx1 (hx2 _ (bal hB0 _)) hx3 (by unfold maxLen; omega) (by omega) (by simp) ?_)
    intro v' w1 hown hgrow _
    have hbel := below_append (wr := w) (bal hB0 _) ho hgrow
    try simp only [Nat.zero_add, List.nil_append] at hown
    have hr := HX.out v' w1 hbel hown
    have HU := Lib.hid hr
    obtain ⟨a', c', rfl⟩ := hr.ex
    clear hr
    clear hown hx1 hx2 hx3 hq hgrow ho
    go_wp2
    go_ret
    exact ⟨⟨_, rfl, HU.out⟩, hbel⟩
end Go.Proofs.YtdllbdfchloijaaDoor

/- vm: a machine in memory; what keeps it. -/
namespace Go.Proofs.YtdllbdfchloijaaDoor
open Num
open Go.ChangeShapes Go.WideShapes Go.ChangeAt Go.RowKit
set_option linter.unusedVariables false
set_option linter.unusedSimpArgs false
section
variable {S : TypeId → Prop} {w w' : World}
theorem FromA.kp {B : Nat} {t : TypeId} {a : Option Addr} (h : FromA B t w a) (k : Kp S w w') (hs : S t) : FromA B t w' a := fun p e => ⟨(h p e).1, k.typ (h p e).2 hs⟩
theorem InsV.kp {B : Nat} {a : Option Addr} {c : Nat} {L : List Ins} (h : InsV w a c L) (hf : FromA B 53 w a) (k : Kp S w w') (hs : S 53) : InsV w' a c L := by
  rcases h with h | ⟨b, off, h1, h2, h3⟩
  · exact .inl h
  · refine .inr ⟨b, off, h1, h2, fun j hj => ?_⟩
    have ht := (hf _ h1).2
    obtain ⟨c0, c1, c2, c3, c4⟩ := h3 j hj
    exact ⟨k.cell ht hs c0, k.cell ht hs c1, k.cell ht hs c2, k.cell ht hs c3, k.cell ht hs c4⟩
theorem IntsV.kp {B : Nat} {a : Option Addr} {c : Nat} {L : List Int} (h : IntsV w a c L) (hf : FromA B 3 w a) (k : Kp S w w') (hs : S 3) : IntsV w' a c L := by
  rcases h with h | ⟨b, off, h1, h2, h3⟩
  · exact .inl h
  · exact .inr ⟨b, off, h1, h2, fun j hj => k.cell (hf _ h1).2 hs (h3 j hj)⟩
end
/-- a row of rows in a block that may be written -/
structure RegsAt (base : Nat) (w : World) (rb : Nat) (g : Grid) : Prop where
  free : Free w rb
  ty : typOf w rb = some 27
  cell : ∀ k, k < g.length → ∃ u, w.cell? ⟨rb, k, none⟩ = some u ∧ PRow base w u (g.getD k [])
theorem RegsAt.keep {base rb : Nat} {w w' : World} {g : Grid} (h : RegsAt base w rb g) (k : Below w.heap.size w w') : RegsAt base w' rb g :=
  ⟨h.free.keep k, typ_keep h.ty k, fun j hj => by obtain ⟨u, hu, hr⟩ := h.cell j hj; exact ⟨u, bkeep k hu, hr.keep lims_int k⟩⟩
section
variable {base : Nat} {w w' : World} {b pb : Nat} {ins regs : Int} {code : List Ins} {outs : List Int} {rv : Value}
theorem Free.kp {S : TypeId → Prop} {g : Nat} {t : TypeId} (h : Free w g) (k : Kp S w w') (ht : typOf w g = some t) (hs : S t) : Free w' g :=
  ⟨typ_lt (k.typ ht hs), fun j => k.frz ht hs (h.2 j)⟩
end
end Go.Proofs.YtdllbdfchloijaaDoor

/- vm: Step. -/
namespace Go.Proofs.YtdllbdfchloijaaDoor
open Num
open Go.ChangeShapes Go.WideShapes Go.ChangeAt Go.RowKit
set_option linter.unusedVariables false
set_option linter.unusedSimpArgs false
attribute [local go_sem ↓] Go.wp_at_zero Go.wp_at_succ
section
variable {base : Nat} {w w' : World} {b rb rc : Nat} {ins regs : Int} {code : List Ins} {outs : List Int} {g : Grid} {n : Nat}
/-- what Step asks of the instruction at hand -/
structure InsOk (i : Ins) (regs : Nat) : Prop where
  o1 : 1 ≤ i.op
  o2 : i.op ≤ 8
  t0 : 0 ≤ i.to
  t1 : i.to < regs
  a0 : 0 ≤ i.a
  a1 : i.a < regs
  b0 : 0 ≤ i.b
  b1 : i.b < regs
  c : constB i.op i.c = true
theorem insOk_of {i : Ins} {regs : Nat} (h : mayB i.op i.to i.a i.b i.c regs = true) (h0 : 0 < regs) : InsOk i regs := by
  obtain ⟨h1, h2, h3, h4, h5, h6, h7, h8, h9⟩ := (mayB_iff ..).1 h
  cases e : twoB i.op with
  | true => exact ⟨h1, h2, h3, h4, h7, h8, (h9 e).1, (h9 e).2, h6⟩
  | false => have := h5 e; exact ⟨h1, h2, h3, h4, h7, h8, by omega, by omega, h6⟩
end
/-- a row's value, and the numbers that lie behind it -/
theorem PRow.view {base : Nat} {w : World} {v : Value} {l : List Int} (h : PRow base w v l) : ∃ a c, v = .slice a l.length c ∧ l.length ≤ c ∧ ∀ j, j < l.length → ∃ b off nb ad len cp, a = some ⟨b, off, none⟩ ∧ w.cell? ⟨b, off + j * 2, none⟩ = some (.bool nb) ∧ w.cell? ⟨b, off + j * 2 + 1, none⟩ = some (.slice ad len cp) ∧ IsInt w (.agg #[.bool nb, .slice ad len cp]) (l.getD j 0) := by
  obtain ⟨a, c, h1, h2, h3, h4⟩ := h
  refine ⟨a, c, h1, h2, fun j hj => ?_⟩
  rcases h4 with h4 | ⟨b, off, ha, hb, ht, hi⟩
  · rw [h4] at hj; simp at hj
  · obtain ⟨nb, ad, len, cp, k1, k2, k3⟩ := hi j hj
    exact ⟨b, off, nb, ad, len, cp, ha, k1, k2, k3⟩
end Go.Proofs.YtdllbdfchloijaaDoor

/- eval: Program's add and scaled: a program in the making, to which instructions are added. -/
namespace Go.Proofs.YtdllbdfchloijaaDoor
open Num
open Go.ChangeShapes Go.WideShapes Go.ChangeAt Go.RowKit
set_option linter.unusedVariables false
set_option linter.unusedSimpArgs false
theorem measE {N c : Nat} (h : c < N) {a b : Value} (ha : a = .int .i64 ((c + 1 : Nat) : Int)) (hb : b = .int .i64 (c : Nat)) : N - (intOf a).toNat < N - (intOf b).toNat := by
  subst ha hb
  simp [intOf]
  omega
section
variable {P : Program} {T E : TypeId} {size bytes : Nat} {ops : Array Oper} {rest : List Oper} {o : Oper} {a : Act} {Q : Exit → Act → World → Prop} {base : Nat} {wr : World} {v : Value} {n : Nat} {xs C : List Value} {t : TypeId} {s x : Operand}
/-- append of what lies in a new block, to a row that lies from base on -/
theorem app_litB (el : Elt P T E size bytes) (hgd : o.guard = none)
    (ho : o.op = .call { callee := .builtin .append, args := #[s, x], argTypes := #[T, T] }) (hO : wr.ownsRow base E size v n xs) (hbase : base ≤ wr.heap.size) (hs : a.eval s = v)
    {m c g : Nat} (hx : a.eval x = .slice (some ⟨g, 0, none⟩) m c) (hg : g = wr.heap.size) (hl : C.length = m * size) (h1 : ∀ u ∈ C, u.oneCell' = true) (hn : n + m ≤ 1099511627776)
    (h : ∀ v' w', w'.ownsRow base E size v' (n + m) (xs ++ C) → Kp (· ≠ E) wr w' → Below base wr w' → wpList P ops Q rest (a.put o.dst v') w') : wpList P ops Q (o :: rest) a (wr.alloc (.cells C.toArray t)) := by
  subst hg
  obtain ⟨i, z, hi, hz, hsize, hby, hzs⟩ := el.info
  have hb : (n + m) * bytes ≤ 1099511627776 * 128 := Nat.mul_le_mul hn el.small
  have hA : (wr.alloc (.cells C.toArray t)).ownsRow base E size v n xs := hO.alloc _
  refine wpList_append_own _ hgd s x T ho base E i z size bytes el.ht hi hz hsize hby hzs el.pos v n xs hs hA ⟨wr.heap.size, 0, none⟩ m c C hx hl (cells_new wr C t) h1 (by unfold maxLen; omega) (by omega) (by simp; omega) ?_
  intro v' w' hown hg _
  refine h v' w' hown (((Kp.refl _ wr).alloc _).grown hg fun q hg' t' ht hne => hne (by rw [own_typ' hA hg'] at ht; exact (Option.some.inj ht).symm)) ?_
  exact (((Out.refl (fun k => base ≤ k) wr).alloc _).grown hg fun k hk' _ => (hA.lt k hk').1).to_below (fun k hk _ h => by omega) hbase
end
theorem owns_ex {w : World} {base n size : Nat} {T : TypeId} {v : Value} {xs : List Value} (h : w.ownsRow base T size v n xs) : ∃ a c, v = .slice a n c := by
  rcases h.2 with ⟨rfl, rfl⟩ | ⟨g, c, _, rfl, _⟩
  · exact ⟨_, _, rfl⟩
  · exact ⟨_, _, rfl⟩
/-- a program in the making, in the block pb; its rows lie above -/
structure EvB (pb : Nat) (k R : Int) (L : List Ins) (O : List Int) (w : World) : Prop where
  ty : typOf w pb = some 50
  fr : Free w pb
  c0 : w.cell? ⟨pb, 0, none⟩ = some (.int .i64 k)
  c1 : w.cell? ⟨pb, 1, none⟩ = some (.int .i64 R)
  code : ∃ v, w.cell? ⟨pb, 2, none⟩ = some v ∧ w.ownsRow (pb + 1) 53 5 v L.length (pcel L)
  outs : ∃ v, w.cell? ⟨pb, 3, none⟩ = some v ∧ w.ownsRow (pb + 1) 3 1 v O.length (icel O)
/-- what the adding of instructions leaves -/
structure Fr (pb : Nat) (w w' : World) : Prop where
  kp : Kp (fun t => t ≠ 53 ∧ t ≠ 50) w w'
  bel : Below pb w w'
theorem Fr.refl (pb : Nat) (w : World) : Fr pb w w := ⟨Kp.refl _ _, Below.refl _ _⟩
theorem Fr.trans {pb : Nat} {a b c : World} (h : Fr pb a b) (k : Fr pb b c) : Fr pb a c := ⟨h.kp.trans k.kp, h.bel.trans k.bel⟩
theorem Fr.below {pb : Nat} {a b c : World} (h : Fr pb a b) (k : Below b.heap.size b c) (hp : pb ≤ b.heap.size) : Fr pb a c := ⟨h.kp.below k, h.bel.trans (k.mono hp)⟩
theorem bkeepN {B : Nat} {W w1 : World} (hb : Below B W w1) {p : Addr} {v : Value} (h : W.cell? p = some v) (hp : p.block < B) : w1.cell? p = some v := by
  unfold World.cell? at h ⊢
  rw [hb.block _ hp]
  exact h
theorem EvB.below {pb : Nat} {k R : Int} {L : List Ins} {O : List Int} {w w' : World} (h : EvB pb k R L O w) (hb : Below w.heap.size w w') : EvB pb k R L O w' := by
  obtain ⟨v, hv, hr⟩ := h.code
  obtain ⟨u, hu, hs⟩ := h.outs
  exact ⟨typ_keep h.ty hb, h.fr.keep hb, bkeep hb h.c0, bkeep hb h.c1, ⟨v, bkeep hb hv, owns_kp (S := fun _ => True) hr (Kp.of_below _ hb) trivial⟩, ⟨u, bkeep hb hu, owns_kp (S := fun _ => True) hs (Kp.of_below _ hb) trivial⟩⟩
/-- the code's row becomes another -/
theorem EvB.put {pb : Nat} {k R : Int} {L M : List Ins} {O : List Int} {w w' : World} {v : Value} (h : EvB pb k R L O w) (hr : w'.ownsRow (pb + 1) 53 5 v M.length (pcel M)) (hk : Kp (· ≠ 53) w w') (hb : Below (pb + 1) w w') :
    EvB pb k R M O (w'.setCell ⟨pb, 2, none⟩ v) ∧ Fr pb w (w'.setCell ⟨pb, 2, none⟩ v) := by
  obtain ⟨v0, hv0, _⟩ := h.code
  obtain ⟨u, hu, hs⟩ := h.outs
  have hlt : pb < pb + 1 := Nat.lt_succ_self _
  have hty := hk.typ h.ty (by decide)
  have hnb : ∀ {x : Value} {T : TypeId} {size n : Nat} {xs : List Value}, w'.ownsRow (pb + 1) T size x n xs → (w'.setCell ⟨pb, 2, none⟩ v).ownsRow (pb + 1) T size x n xs := fun hO => ownsRow_setCell_other hO (fun hb => by have h := (hO.lt _ hb).1; dsimp only at h; omega) v
  refine ⟨⟨by rw [typ_set]; exact hty, ?_, ?_, ?_, ⟨v, cell_here (bkeepN hb hv0 hlt) _, hnb hr⟩, ⟨u, cell_far (bkeepN hb hu hlt) (by simp) _, hnb (owns_kp hs hk (by decide))⟩⟩, ?_, ?_⟩
  · refine Free.set ⟨Nat.lt_of_lt_of_le h.fr.1 hb.size, fun j => ?_⟩ _ _
    rw [World.frozen?_of_block (w := w) (hb.block pb hlt)]; exact h.fr.2 j
  · exact cell_far (bkeepN hb h.c0 hlt) (by simp) _
  · exact cell_far (bkeepN hb h.c1 hlt) (by simp) _
  · refine (hk.weak fun t ht => ht.1).set (fun t ht hs => ?_) _
    rw [hty] at ht
    exact hs.2 (Option.some.inj ht).symm
  · exact (hb.mono (Nat.le_succ _)).setCell (Nat.le_refl _) _
theorem pcel_app (L M : List Ins) : pcel (L ++ M) = pcel L ++ pcel M := by simp [pcel]
theorem EvB.ext {pb : Nat} {k R : Int} {L M : List Ins} {O : List Int} {w : World} (h : EvB pb k R L O w) (e : L = M) : EvB pb k R M O w := e ▸ h
set_option maxRecDepth 100000 in
set_option maxHeartbeats 8000000 in
theorem add_c (pb : Nat) (k R : Int) (L : List Ins) (O : List Int) (i : Ins) (w : World) (h : EvB pb k R L O w) (hl : L.length ≤ 100000) :
    Calls Tryd.prog 35 #[i.v, .pointer (some ⟨pb, 0, none⟩)] w fun e w' => e = .returned (.tuple #[]) ∧ EvB pb k R (L ++ addI i) O w' ∧ Fr pb w w' := by
  obtain ⟨op, t, ia, ib, ic⟩ := i
  have hB := Below.refl w.heap.size w
  have HE := Lib.hid h
  simp only [Ins.v]
  by_cases hno : op = 1 ∧ t = ia
  · have HI := Lib.hid (show addI ⟨op, t, ia, ib, ic⟩ = [] from if_pos hno)
    obtain ⟨rfl, rfl⟩ := hno
    go_enter Tryd.func35, Tryd.ntmps35
    go_wp2
    refine bodyPost_end (v := .tuple #[]) (by simp [results, Tryd.results35, go_sem]) rfl ?_
    exact ⟨rfl, by rw [HI.out, List.append_nil]; exact HE.out.below (by repeat (first | exact Below.refl _ _ | exact hB | refine Below.drew ?_ | refine below_drewN ?_ _ | refine bset ?_ (by simp <;> omega) _ | refine bal ?_ _)), (Fr.refl pb w).below (by repeat (first | exact Below.refl _ _ | exact hB | refine Below.drew ?_ | refine below_drewN ?_ _ | refine bset ?_ (by simp <;> omega) _ | refine bal ?_ _)) (Nat.le_of_lt HE.out.fr.1)⟩
  · have HI := Lib.hid (show addI ⟨op, t, ia, ib, ic⟩ = [⟨op, t, ia, ib, ic⟩] from if_neg hno)
    obtain ⟨v, p2, hr⟩ := h.code
    obtain ⟨va, vc, rfl⟩ := owns_ex hr
    have p2f := h.fr.2 2
    have hpb := h.fr.1
    have HR := Lib.hid hr
    have HL := Lib.hid (show L.length + 1 ≤ 1099511627776 by omega)
    have HP := Lib.hid (show ∀ w1 v' w', Below w.heap.size w w1 → w'.ownsRow (pb + 1) 53 5 v' (L.length + 1) (pcel L ++ [.int .i64 op, .int .i64 t, .int .i64 ia, .int .i64 ib, .int .i64 ic]) → Kp (· ≠ 53) w1 w' → Below (pb + 1) w1 w' → EvB pb k R (L ++ addI ⟨op, t, ia, ib, ic⟩) O (w'.setCell ⟨pb, 2, none⟩ v') ∧ Fr pb w (w'.setCell ⟨pb, 2, none⟩ v') from fun w1 v' w' h1 h2 h3 h4 => by
      have h5 := (HE.out.below h1).put (M := L ++ [⟨op, t, ia, ib, ic⟩]) (v := v') (by rw [pcel_app, List.length_append]; exact h2) h3 h4
      rw [HI.out]
      exact ⟨h5.1, ((Fr.refl pb w).below h1 (Nat.le_of_lt hpb)).trans h5.2⟩)
    have zp := cell_lt p2
    have hzp : pb < w.heap.size + 1 := by omega
    have hop : (op != 1) = true ∨ ((op != 1) = false ∧ (t != ia) = true) := by
      by_cases e : op = 1
      · exact .inr ⟨by simpa using e, by simpa using fun e2 => hno ⟨e, e2⟩⟩
      · exact .inl (by simpa using e)
    clear hr h hno HE HI
    rcases hop with h1 | ⟨h1, h2⟩
    all_goals
      go_enter Tryd.func35, Tryd.ntmps35
      go_wp2_with (at_builtin; refine app_litB (base := pb + 1) (v := .slice va L.length vc) (n := L.length) (xs := pcel L) (g := w.heap.size + 1) (m := 1) (c := 1) (C := [.int .i64 op, .int .i64 t, .int .i64 ia, .int .i64 ib, .int .i64 ic]) elP (by rfl) (by rfl) ?_ ?_ (by rfl) (by rfl) ?_ rfl (pcel_one [⟨op, t, ia, ib, ic⟩]) HL.out ?_; (exact owns_kp (S := fun _ => True) HR.out (Kp.of_below _ (bal hB _)) trivial); (simp; omega); (simp))
      intro v' w8 hO hK hBe
      obtain ⟨va2, vc2, rfl⟩ := owns_ex hO
      have HF := Lib.hid (HP.out _ (.slice va2 (L.length + 1) vc2) w8 (by repeat (first | exact Below.refl _ _ | exact hB | refine Below.drew ?_ | refine below_drewN ?_ _ | refine bset ?_ (by simp <;> omega) _ | refine bal ?_ _)) hO hK hBe)
      have p8 := bkeepN hBe (show _ = some (.slice va L.length vc) from bkeep (show Below w.heap.size w _ by repeat (first | exact Below.refl _ _ | exact hB | refine Below.drew ?_ | refine below_drewN ?_ _ | refine bset ?_ (by simp <;> omega) _ | refine bal ?_ _)) p2) (Nat.lt_succ_self pb)
      have p8f : w8.frozen? ⟨pb, 2, none⟩ = false := by
        rw [World.frozen?_of_block (w := _) (hBe.block pb (Nat.lt_succ_self pb))]
        exact bkeepf (show Below w.heap.size w _ by repeat (first | exact Below.refl _ _ | exact hB | refine Below.drew ?_ | refine below_drewN ?_ _ | refine bset ?_ (by simp <;> omega) _ | refine bal ?_ _)) p2 p2f
      clear hO hK hBe HP HR
      go_wp2
      refine bodyPost_end (v := .tuple #[]) (by simp [results, Tryd.results35, go_sem]) rfl ?_
      exact ⟨rfl, HF.out.1, HF.out.2⟩
end Go.Proofs.YtdllbdfchloijaaDoor

/- eval: Program's scaled: so many powers of a number. -/
namespace Go.Proofs.YtdllbdfchloijaaDoor
open Num
open Go.ChangeShapes Go.WideShapes Go.ChangeAt Go.RowKit
set_option linter.unusedVariables false
set_option linter.unusedSimpArgs false
attribute [local go_sem ↓] Go.wp_at_zero Go.wp_at_succ
/-- the function value that adds -/
def addV (pb : Nat) : Value := .func (.func 35) #[] #[.pointer (some ⟨pb, 0, none⟩)]
/-- the table of trailing noughts lies ahead of the program in the making -/
def TzAt (pb : Nat) (w : World) : Prop := Tz64 w ∧ 1 < pb
theorem TzAt.keep {pb : Nat} {w w' : World} (h : TzAt pb w) (hb : Below w.heap.size w w') : TzAt pb w' := ⟨h.1.keep hb, h.2⟩
theorem TzAt.fr {pb : Nat} {w w' : World} (h : TzAt pb w) (hb : Fr pb w w') : TzAt pb w' := ⟨fun j hj => bkeepN hb.bel (h.1 j hj) h.2, h.2⟩
theorem scaledL_succ (t : Int) {n j : Nat} (h : j < n) (a c : Int) : scaledL t (n - j) a c = addI (timesI t a c) ++ scaledL t (n - (j + 1)) t c := by
  obtain ⟨m, hm⟩ : ∃ m, n - j = m + 1 := ⟨n - j - 1, by omega⟩
  rw [hm, show n - (j + 1) = m by omega]; rfl
set_option maxRecDepth 100000 in
set_option maxHeartbeats 8000000 in
theorem scaled_c (pb fb : Nat) (k R : Int) (L : List Ins) (O : List Int) (t a c : Int) (n : Nat) (w : World) (h : EvB pb k R L O w) (hf : w.cell? ⟨fb, 0, none⟩ = some (addV pb)) (hft : typOf w fb = some 79) (hc : Smn c) (hT : TzAt pb w) (hn : n ≤ 100) (hl : L.length ≤ 10000) :
    Calls Tryd.prog 36 #[.int .i64 t, .int .i64 a, .int .i64 c, .int .i64 n, .pointer (some ⟨fb, 0, none⟩)] w fun e w' => e = .returned (.tuple #[]) ∧ EvB pb k R (L ++ scaledL t n a c) O w' ∧ Fr pb w w' := by
  have HE := Lib.hid h
  have HF := Lib.hid (show ∀ W, Fr pb w W → W.cell? ⟨fb, 0, none⟩ = some (addV pb) from fun W q => q.kp.cell hft (by decide) hf)
  have HT := Lib.hid hT
  have HC := Lib.hid hc
  clear h hf hft hT hc
  go_enter Tryd.func36, Tryd.ntmps36
  go_wp2
  go_loopw [1, 10] (fun a' x wr => ∃ (j : Nat) (ai : Int) (Lj : List Ins), j ≤ n ∧ x = .int .i64 j ∧ a' = .int .i64 ai ∧ Hid (EvB pb k R Lj O wr) ∧ Hid (Lj ++ scaledL t (n - j) ai c = L ++ scaledL t n a c ∧ Lj.length ≤ L.length + j) ∧ Hid (Fr pb w wr)) (fun _ x _ => n - (intOf x).toNat)
  case atStart => exact ⟨0, a, L, Nat.zero_le _, rfl, rfl, HE, Lib.hid ⟨by rw [Nat.sub_zero], by omega⟩, Lib.hid (Fr.refl _ _)⟩
  case round =>
    obtain ⟨j, ai, Lj, hj, rfl, rfl, hE, hL, hR⟩ := hrel
    by_cases hlt : j < n
    · have hltI : (j : Int) < (n : Int) := by omega
      have f0 := HF.out wr hR.out
      unfold addV at f0
      have HS := Lib.hid (show ∀ V, Below wr.heap.size wr V → V.cell? ⟨fb, 0, none⟩ = some (.func (.func 35) #[] #[.pointer (some ⟨pb, 0, none⟩)]) from fun V q => bkeep q f0)
      have TC := Lib.hid (fun V (q : Below wr.heap.size wr V) => timesI_c t ai c V HC.out ((HT.out.fr hR.out).keep q).1)
      have AC := Lib.hid (fun V (q : Below wr.heap.size wr V) => add_c pb k R Lj O (timesI t ai c) V (hE.out.below q) (by have := hL.out.2; omega))
      have HL1 := Lib.hid (show (Lj ++ addI (timesI t ai c)) ++ scaledL t (n - (j + 1)) t c = L ++ scaledL t n a c ∧ (Lj ++ addI (timesI t ai c)).length ≤ L.length + (j + 1) from ⟨by rw [List.append_assoc, ← scaledL_succ t hlt, hL.out.1], by
        have h1 := hL.out.2
        have h2 := addI_le (timesI t ai c)
        rw [List.length_append]; omega⟩)
      have HPB := Lib.hid (show pb ≤ wr.heap.size from Nat.le_of_lt hE.out.fr.1)
      obtain ⟨iv, hiv⟩ : ∃ i, (timesI t ai c).v = i := ⟨_, rfl⟩
      rw [hiv] at TC AC
      have zf := cell_lt f0
      have hBc := Below.refl wr.heap.size wr
      have HLT := Lib.hid hlt
      clear hL hE hlt hiv
      go_wp2
      go_region_held3 (fun V => V.cell? ⟨fb, 0, none⟩ = some (.func (.func 35) #[] #[.pointer (some ⟨pb, 0, none⟩)]))
        (first | (refine HS.out _ ?_; (repeat (first | exact Below.refl _ _ | exact hBc | refine Below.drew ?_ | refine below_drewN ?_ _ | refine bset ?_ (by simp <;> omega) _ | refine bal ?_ _)); done) | exact hfc | fail)
        (first
          | (go_at_call 37; refine (TC.out _ ?_).mono ?_; (repeat (first | exact Below.refl _ _ | exact hBc | refine Below.drew ?_ | refine below_drewN ?_ _ | refine bset ?_ (by simp <;> omega) _ | refine bal ?_ _)); rintro e w5 ⟨rfl, hb5⟩; (have hBd : Below wr.heap.size wr w5 := bthen (by repeat (first | exact Below.refl _ _ | exact hBc | refine Below.drew ?_ | refine below_drewN ?_ _ | refine bset ?_ (by simp <;> omega) _ | refine bal ?_ _)) hb5; clear hBc; have hBc := hBd; clear hBd))
          | (go_at_call 35; refine (AC.out _ ?_).mono ?_; (repeat (first | exact Below.refl _ _ | exact hBc | refine Below.drew ?_ | refine below_drewN ?_ _ | refine bset ?_ (by simp <;> omega) _ | refine bal ?_ _)); rintro e w6 ⟨rfl, hE6, hF6⟩; have HE6 := Lib.hid hE6; have HF6 := Lib.hid ((hR.out.below (show Below wr.heap.size wr _ by repeat (first | exact Below.refl _ _ | exact hBc | refine Below.drew ?_ | refine below_drewN ?_ _ | refine bset ?_ (by simp <;> omega) _ | refine bal ?_ _)) HPB.out).trans hF6); have hfc := HF.out w6 HF6.out; unfold addV at hfc; clear hE6 hF6)
          | fail)
      all_goals
        have hl := HLT.out
        go_wp2
        exact ⟨⟨j + 1, t, _, hl, by go_num, rfl, HE6, HL1, HF6⟩, measE hl (by go_num) rfl⟩
    · obtain rfl : n = j := by omega
      have hltI : ¬ (n : Int) < (n : Int) := by omega
      go_wp2
      refine bodyPost_end (v := .tuple #[]) (by simp [results, Tryd.results36, go_sem]) rfl ?_
      have e := hL.out.1
      rw [Nat.sub_self] at e
      refine ⟨rfl, ?_, hR.out⟩
      rw [← e]
      show EvB pb k R (Lj ++ []) O wr
      rw [List.append_nil]
      exact hE.out
theorem add_l (pb : Nat) (k R : Int) (L : List Ins) (O : List Int) (op t a b c : Int) (w : World) (h : EvB pb k R L O w) (hl : L.length ≤ 100000) :
    Calls Tryd.prog 35 #[.agg #[.int .i64 op, .int .i64 t, .int .i64 a, .int .i64 b, .int .i64 c], .pointer (some ⟨pb, 0, none⟩)] w fun e w' => e = .returned (.tuple #[]) ∧ EvB pb k R (L ++ addI ⟨op, t, a, b, c⟩) O w' ∧ Fr pb w w' := add_c pb k R L O ⟨op, t, a, b, c⟩ w h hl
theorem scaled_z (pb fb : Nat) (k R : Int) (L : List Ins) (O : List Int) (t a c N : Int) (n : Nat) (w : World) (h : EvB pb k R L O w) (hf : w.cell? ⟨fb, 0, none⟩ = some (.func (.func 35) #[] #[.pointer (some ⟨pb, 0, none⟩)])) (hft : typOf w fb = some 79) (hc : Smn c) (hT : TzAt pb w) (hn : n ≤ 100) (hl : L.length ≤ 10000) (hN : N = (n : Int)) :
    Calls Tryd.prog 36 #[.int .i64 t, .int .i64 a, .int .i64 c, .int .i64 N, .pointer (some ⟨fb, 0, none⟩)] w fun e w' => e = .returned (.tuple #[]) ∧ EvB pb k R (L ++ scaledL t n a c) O w' ∧ Fr pb w w' := by
  subst hN
  exact scaled_c pb fb k R L O t a c n w h hf hft hc hT hn hl
end Go.Proofs.YtdllbdfchloijaaDoor

/- eval: points: may points be asked? -/
namespace Go.Proofs.YtdllbdfchloijaaDoor
open Pt
open Num
open Go.ChangeShapes Go.WideShapes Go.ChangeAt Go.RowKit
set_option linter.unusedVariables false
set_option linter.unusedSimpArgs false
attribute [local go_sem ↓] Go.wp_at_zero Go.wp_at_succ
/-- points that may be asked -/
def PtsOk (n : Nat) (f : Nat → Int × Int) : Prop := 1 ≤ n ∧ n ≤ 15 ∧ ∀ i, i < n → PIn (f i).1 (f i).2
def ptsB (n : Nat) (f : Nat → Int × Int) : Bool := (decide (1 ≤ n) && decide (n ≤ 15)) && (List.range n).all fun i => inB (f i).1 (f i).2
theorem ptsB_iff (n : Nat) (f : Nat → Int × Int) : ptsB n f = true ↔ PtsOk n f := by
  unfold ptsB PtsOk
  simp only [Bool.and_eq_true, decide_eq_true_eq, List.all_eq_true, List.mem_range, inB_iff, PIn, and_assoc]
theorem ptsB_no {n : Nat} {f : Nat → Int × Int} (h : ¬ PtsOk n f) : ptsB n f = false := by
  rw [Bool.eq_false_iff]; exact fun e => h ((ptsB_iff n f).1 e)
theorem PtsV.atE {w : World} {a : Option Addr} {n cap i : Nat} {f : Nat → Int × Int} (h : PtsV w a n cap f) (hi : i < n) : ∃ b off, a = some ⟨b, off, none⟩ ∧ n ≤ cap ∧ w.cell? ⟨b, off + i * 2, none⟩ = some (.int .i64 (f i).1) ∧ w.cell? ⟨b, off + i * 2 + 1, none⟩ = some (.int .i64 (f i).2) := by
  rcases h with h | ⟨b, off, rfl, h2, h3⟩
  · omega
  · exact ⟨b, off, rfl, h2, (h3 i hi).1, (h3 i hi).2⟩
set_option maxRecDepth 100000 in
set_option maxHeartbeats 4000000 in
theorem evPoints_c (a : Option Addr) (n cap : Nat) (f : Nat → Int × Int) (w : World) (h : PtsV w a n cap f) (hn : n ≤ 4611686018427387904) :
    Calls Tryd.prog 31 #[.slice a n cap] w fun e w' => e = .returned (.bool (ptsB n f)) ∧ Below w.heap.size w w' := by
  have hB := Below.refl w.heap.size w
  have HP := Lib.hid h
  clear h
  go_enter Tryd.func31, Tryd.ntmps31
  go_wp2
  go_loopw [7] (fun x wr => ∃ j : Nat, j ≤ n ∧ x = .int .i64 j ∧ Below w.heap.size w wr ∧ Hid (∀ t, t < j → inB (f t).1 (f t).2 = true)) (fun x _ => n - (intOf x).toNat)
  case atStart => exact ⟨0, Nat.zero_le _, rfl, hB, Lib.hid (fun t ht => by omega)⟩
  case round =>
    obtain ⟨j, hj, rfl, hBr, hE⟩ := hrel
    by_cases hlt : j < n
    · have hltI : (j : Int) < (n : Int) := by omega
      obtain ⟨b, off, e, hcap, c0, c1⟩ := (HP.out.keep hBr).atE hlt
      subst e
      have zb := cell_lt c0
      obtain ⟨q, hq⟩ : ∃ q, f j = q := ⟨_, rfl⟩
      rw [hq] at c0 c1
      obtain ⟨q1, q2⟩ := q
      obtain ⟨v, hv⟩ : ∃ v, inB q1 q2 = v := ⟨_, rfl⟩
      have NC := Lib.hid (fun W => ptIn_v q1 q2 v W hv)
      have HV := Lib.hid (show inB (f j).1 (f j).2 = v by rw [hq]; exact hv)
      have hBw := Below.refl wr.heap.size wr
      have HLT := Lib.hid hlt
      clear hq hv hcap
      go_wp2_with fail
      (with_reducible refine (NC.out _).mono ?_)
      rintro e w5 ⟨rfl, hb5⟩
      have hB5 := bthen hBr (bthen (show Below wr.heap.size wr _ by repeat (first | exact Below.refl _ _ | exact hBw | refine Below.drew ?_ | refine below_drewN ?_ _ | refine bset ?_ (by simp <;> omega) _ | refine bal ?_ _)) hb5)
      cases v with
      | false =>
        have HNO := Lib.hid (show ptsB n f = false from ptsB_no fun k => by
          have h1 := inB_yes (k.2.2 j HLT.out)
          rw [HV.out] at h1; cases h1)
        go_wp2
        go_ret
        exact ⟨ret_bool HNO.out.symm, hB5⟩
      | true =>
        have HE2 := Lib.hid (show ∀ t, t < j + 1 → inB (f t).1 (f t).2 = true from fun t ht => by
          by_cases e : t = j
          · subst e; exact HV.out
          · exact hE.out t (by omega))
        go_wp2
        exact ⟨⟨j + 1, hlt, by go_num, hB5, HE2⟩, measS hlt (by go_num) rfl⟩
    · obtain rfl : j = n := by omega
      have hltI : ¬ (j : Int) < (j : Int) := by omega
      by_cases h1 : 1 ≤ j
      · have h1I : (1 : Int) ≤ (j : Int) := by omega
        by_cases h2 : j ≤ 15
        · have h2I : (j : Int) ≤ 15 := by omega
          have HM := Lib.hid (show ptsB j f = true from (ptsB_iff j f).2 ⟨h1, h2, fun i hi => (inB_iff _ _).1 (hE.out i hi)⟩)
          go_wp2
          go_ret
          exact ⟨ret_bool HM.out.symm, hBr⟩
        · have h2I : ¬ (j : Int) ≤ 15 := by omega
          have HM := Lib.hid (show ptsB j f = false from ptsB_no fun k => h2 k.2.1)
          go_wp2
          go_ret
          exact ⟨ret_bool HM.out.symm, hBr⟩
      · have h1I : ¬ (1 : Int) ≤ (j : Int) := by omega
        have HM := Lib.hid (show ptsB j f = false from ptsB_no fun k => h1 k.1)
        go_wp2
        go_ret
        exact ⟨ret_bool HM.out.symm, hBr⟩
end Go.Proofs.YtdllbdfchloijaaDoor

/- eval: Program: the program that evaluates. -/
namespace Go.Proofs.YtdllbdfchloijaaDoor
open Pt
open Num
open Go.ChangeShapes Go.WideShapes Go.ChangeAt Go.RowKit
set_option linter.unusedVariables false
set_option linter.unusedSimpArgs false
attribute [local go_sem ↓] Go.wp_at_zero Go.wp_at_succ
theorem owns_set1 {w : World} {base n i g cap : Nat} {e : TypeId} {xs : List Value} (h : w.ownsRow base e 1 (.slice (some ⟨g, 0, none⟩) n cap) n xs) (u : Value) : (w.setCell ⟨g, i, none⟩ u).ownsRow base e 1 (.slice (some ⟨g, 0, none⟩) n cap) n (xs.set i u) := by
  refine ⟨by rw [List.length_set]; exact h.1, .inr ?_⟩
  rcases h.2 with ⟨hv, _⟩ | ⟨g', cap', cur, hv, hg, hh, h1, h2, h3, h4⟩
  · cases hv
  · cases hv
    refine ⟨g, cap, cur.setIfInBounds i u, rfl, hg, ?_, h1, h2, by simpa using h3, ?_⟩
    · simp [World.setCell, Array.getElem?_modify, hh]
    · rw [← h4]; simp [List.take_set]
/-- the outs' row becomes another -/
theorem EvB.putO {pb : Nat} {k R : Int} {L : List Ins} {O N : List Int} {w w' : World} {v : Value} (h : EvB pb k R L O w) (hr : w'.ownsRow (pb + 1) 3 1 v N.length (icel N)) (hk : Kp (· ≠ 3) w w') (hb : Below (pb + 1) w w') :
    EvB pb k R L N (w'.setCell ⟨pb, 3, none⟩ v) ∧ Kp (fun t => t ≠ 3 ∧ t ≠ 50) w (w'.setCell ⟨pb, 3, none⟩ v) ∧ Below pb w (w'.setCell ⟨pb, 3, none⟩ v) := by
  obtain ⟨v0, hv0, hs⟩ := h.code
  obtain ⟨u, hu, _⟩ := h.outs
  have hlt : pb < pb + 1 := Nat.lt_succ_self _
  have hty := hk.typ h.ty (by decide)
  have hnb : ∀ {x : Value} {T : TypeId} {size n : Nat} {xs : List Value}, w'.ownsRow (pb + 1) T size x n xs → (w'.setCell ⟨pb, 3, none⟩ v).ownsRow (pb + 1) T size x n xs := fun hO => ownsRow_setCell_other hO (fun hb => by have h := (hO.lt _ hb).1; dsimp only at h; omega) v
  refine ⟨⟨by rw [typ_set]; exact hty, ?_, ?_, ?_, ⟨v0, cell_far (bkeepN hb hv0 hlt) (by simp) _, hnb (owns_kp hs hk (by decide))⟩, ⟨v, cell_here (bkeepN hb hu hlt) _, hnb hr⟩⟩, ?_, ?_⟩
  · refine Free.set ⟨Nat.lt_of_lt_of_le h.fr.1 hb.size, fun j => ?_⟩ _ _
    rw [World.frozen?_of_block (w := w) (hb.block pb hlt)]; exact h.fr.2 j
  · exact cell_far (bkeepN hb h.c0 hlt) (by simp) _
  · exact cell_far (bkeepN hb h.c1 hlt) (by simp) _
  · refine (hk.weak fun t ht => ht.1).set (fun t ht hs => ?_) _
    rw [hty] at ht
    exact hs.2 (Option.some.inj ht).symm
  · exact (hb.mono (Nat.le_succ _)).setCell (Nat.le_refl _) _
theorem icel_app (L M : List Int) : icel (L ++ M) = icel L ++ icel M := by simp [icel]
theorem icel_set (L : List Int) (i : Nat) (x : Int) : (icel L).set i (.int .i64 x) = icel (L.set i x) := by simp [icel, List.map_set]
/-- one of the outs becomes another -/
theorem EvB.setO {pb i g cap : Nat} {k R x : Int} {L : List Ins} {O : List Int} {w : World} (h : EvB pb k R L O w) (hc : w.cell? ⟨pb, 3, none⟩ = some (.slice (some ⟨g, 0, none⟩) O.length cap)) :
    EvB pb k R L (O.set i x) (w.setCell ⟨g, i, none⟩ (.int .i64 x)) ∧ Kp (fun t => t ≠ 3 ∧ t ≠ 50) w (w.setCell ⟨g, i, none⟩ (.int .i64 x)) ∧ Below pb w (w.setCell ⟨g, i, none⟩ (.int .i64 x)) ∧ typOf w g = some 3 ∧ pb < g := by
  obtain ⟨v0, hv0, hs⟩ := h.code
  obtain ⟨u, hu, ho⟩ := h.outs
  rw [hc] at hu
  cases hu
  have hg : pb + 1 ≤ g := (ho.lt g rfl).1
  have hty : typOf w g = some 3 := own_typ' ho rfl
  have hne : ∀ o : Nat, (⟨g, i, none⟩ : Addr) ≠ ⟨pb, o, none⟩ := fun o e => by cases e; omega
  have hcode : v0.ownBlock ≠ some g := fun e => by
    have := own_typ' hs e
    rw [hty] at this
    exact absurd this (by decide)
  refine ⟨⟨by rw [typ_set]; exact h.ty, h.fr.set _ _, cell_far h.c0 (hne 0) _, cell_far h.c1 (hne 1) _, ⟨v0, cell_far hv0 (hne 2) _, ownsRow_setCell_other hs hcode _⟩, ⟨_, cell_far hc (hne 3) _, ?_⟩⟩, ?_, ?_, hty, hg⟩
  · rw [List.length_set, ← icel_set]
    exact owns_set1 ho _
  · refine (Kp.refl _ _).set (fun t ht hs => ?_) _
    dsimp only at ht
    rw [hty] at ht
    exact hs.1 (Option.some.inj ht).symm
  · exact (Below.refl _ _).setCell (by dsimp only; omega) _
/-- Program at work: so many points are done -/
structure EvS (w : World) (pb fb k n : Nat) (f : Nat → Int × Int) (i : Nat) (wr : World) : Prop where
  ev : EvB pb k ((k + n + 1 : Nat) : Int) (codeL k n f i) (outsL k i) wr
  fn : wr.cell? ⟨fb, 0, none⟩ = some (addV pb)
  ft : typOf wr fb = some 79
  bel : Below w.heap.size w wr
  lo : w.heap.size < pb
  r0 : wr.cell? ⟨w.heap.size, 0, none⟩ = some (.int .i64 0)
  r1 : wr.cell? ⟨w.heap.size, 1, none⟩ = some (.int .i64 0)
  r2 : wr.cell? ⟨w.heap.size, 2, none⟩ = some (.slice none 0 0)
  r3 : wr.cell? ⟨w.heap.size, 3, none⟩ = some (.slice none 0 0)
  rf : ∀ j, wr.frozen? ⟨w.heap.size, j, none⟩ = false
  tz : TzAt pb wr
/-- what Program's own stores leave -/
structure Fr2 (pb : Nat) (w w' : World) : Prop where
  kp : Kp (fun t => t ≠ 3 ∧ t ≠ 50 ∧ t ≠ 53) w w'
  bel : Below pb w w'
theorem Fr.fr2 {pb : Nat} {w w' : World} (h : Fr pb w w') : Fr2 pb w w' := ⟨h.kp.weak fun t ht => ⟨ht.2.2, ht.2.1⟩, h.bel⟩
theorem Fr2.trans {pb : Nat} {a b c : World} (h : Fr2 pb a b) (k : Fr2 pb b c) : Fr2 pb a c := ⟨h.kp.trans k.kp, h.bel.trans k.bel⟩
theorem Fr2.below {pb : Nat} {a b c : World} (h : Fr2 pb a b) (k : Below b.heap.size b c) (hp : pb ≤ b.heap.size) : Fr2 pb a c := ⟨h.kp.below k, h.bel.trans (k.mono hp)⟩
theorem Fr2.refl (pb : Nat) (w : World) : Fr2 pb w w := ⟨Kp.refl _ _, Below.refl _ _⟩
theorem EvS.next {w wr wq : World} {pb fb k n i : Nat} {f : Nat → Int × Int} (h : EvS w pb fb k n f i wr) (hf : Fr2 pb wr wq) (he : EvB pb k ((k + n + 1 : Nat) : Int) (codeL k n f (i + 1)) (outsL k (i + 1)) wq) : EvS w pb fb k n f (i + 1) wq where
  ev := he
  fn := hf.kp.cell h.ft (by decide) h.fn
  ft := hf.kp.typ h.ft (by decide)
  bel := h.bel.trans (hf.bel.mono (Nat.le_of_lt h.lo))
  lo := h.lo
  r0 := bkeepN hf.bel h.r0 h.lo
  r1 := bkeepN hf.bel h.r1 h.lo
  r2 := bkeepN hf.bel h.r2 h.lo
  r3 := bkeepN hf.bel h.r3 h.lo
  rf := fun j => by rw [World.frozen?_of_block (w := wr) (hf.bel.block _ h.lo)]; exact h.rf j
  tz := ⟨fun j hj => bkeepN hf.bel (h.tz.1 j hj) h.tz.2, h.tz.2⟩
theorem outsL_one (n : Nat) : (outsL 1 n ++ [((1 + n : Nat) : Int)]).set n 0 = outsL 1 (n + 1) := by
  rw [outsL_succ]
  have : (outsL 1 n).length = n := outsL_len 1 n
  rw [List.set_append_right _ _ (by omega), this, Nat.sub_self]
  rfl
theorem codeL_succ (k n : Nat) (f : Nat → Int × Int) (i : Nat) : codeL k n f (i + 1) = codeL k n f i ++ pointL k ((k + i : Nat) : Int) ((k + n : Nat) : Int) (f i) := rfl
end Go.Proofs.YtdllbdfchloijaaDoor

/- The reference's numbers: divide. -/
namespace Go.Proofs.YtdllbdfchloijaaDoor
open Num
open Go.ChangeShapes Go.WideShapes Go.ChangeAt Go.RowKit
set_option linter.unusedVariables false
set_option linter.unusedSimpArgs false
/-- a slice of digits without high noughts -/
def NewN (w' : World) (u : Value) (v : Nat) : Prop := ∃ a c L, u = .slice a (List.length L) c ∧ U32 w' a c L ∧ NumR.Limbs L ∧ Nrm L ∧ NumR.val L = v
theorem NewN.keep {w w' : World} {u : Value} {v : Nat} (h : NewN w u v) (hb : Below w.heap.size w w') : NewN w' u v := by
  obtain ⟨a, c, L, h1, h2, h3⟩ := h
  exact ⟨a, c, L, h1, h2.keep hb, h3⟩
/-- digits in a row of the call's own, in a block from B on -/
def OwnB (B : Nat) (wr : World) (v : Value) (L : List Nat) : Prop := wr.ownsRow B 83 1 v L.length (cel L)
theorem OwnB.below {B : Nat} {wr w' : World} {v : Value} {L : List Nat} (h : OwnB B wr v L) (hb : Below wr.heap.size wr w') : OwnB B w' v L := own_below (w0 := wr) h hb
theorem OwnB.u32 {B : Nat} {w : World} {v : Value} {L : List Nat} (h : OwnB B w v L) (hL : Limbs L) : ∃ a c, v = .slice a L.length c ∧ U32 w a c L := own_u32 h hL
theorem OwnB.nil (B : Nat) (w : World) : OwnB B w (.slice none 0 0) [] := World.ownsRow_nil _ _ _ _
theorem OwnB.of {B : Nat} {w0 wr : World} {v : Value} {L : List Nat} (h : Own32 w0 wr v L) (hB : B ≤ w0.heap.size) : OwnB B wr v L := World.ownsRow.mono h.1 hB
theorem OwnB.ex {B : Nat} {wr : World} {v : Value} {L : List Nat} (h : OwnB B wr v L) : (v = .slice none 0 0 ∧ L = []) ∨ ∃ g cap, v = .slice (some ⟨g, 0, none⟩) L.length cap ∧ B ≤ g ∧ L.length ≤ cap := by
  obtain ⟨h0, h⟩ := h
  rcases h with ⟨rfl, h1⟩ | ⟨g, cap, cur, rfl, hg, _, hc, _⟩
  · exact .inl ⟨rfl, List.length_eq_zero_iff.1 h1⟩
  · exact .inr ⟨g, cap, rfl, hg, hc⟩
theorem OwnB.cell {B g cap : Nat} {wr : World} {L : List Nat} (h : OwnB B wr (.slice (some ⟨g, 0, none⟩) L.length cap) L) (k : Nat) (hk : k < L.length) : wr.cell? ⟨g, k, none⟩ = some (.int .u32 (L.getD k 0 : Nat)) := by
  rw [World.ownsRow.cellAt h k (by omega), cel_get L k hk]
theorem OwnB.frozen {B g cap : Nat} {wr : World} {L : List Nat} (h : OwnB B wr (.slice (some ⟨g, 0, none⟩) L.length cap) L) (k : Nat) : wr.frozen? ⟨g, k, none⟩ = false := World.ownsRow.frozenAt h k
theorem OwnB.set {B g cap : Nat} {wr : World} {L : List Nat} (h : OwnB B wr (.slice (some ⟨g, 0, none⟩) L.length cap) L) (k x : Nat) (hk : k < L.length) : OwnB B (wr.setCell ⟨g, k, none⟩ (.int .u32 (x : Int))) (.slice (some ⟨g, 0, none⟩) (L.set k x).length cap) (L.set k x) := by
  obtain ⟨hl, h1⟩ := h
  rcases h1 with ⟨h2, _⟩ | ⟨g', cap', cur, h2, hg, hh, hc, hm, hs, ht⟩
  · cases h2
  · cases h2
    refine ⟨by simp [cel_len], .inr ⟨g, cap, cur.setIfInBounds k (.int .u32 (x : Int)), rfl, hg, ?_, by simpa using hc, hm, by simpa using hs, ?_⟩⟩
    · unfold World.setCell
      simp only [Array.getElem?_modify, if_true]
      rw [hh]; rfl
    · rw [Array.toList_setIfInBounds, List.length_set, List.take_set, ht]
      simp [cel, List.map_set]
theorem OwnB.far {B : Nat} {wr : World} {v : Value} {L : List Nat} (h : OwnB B wr v L) {p : Addr} (hp : p.block < B) (u : Value) : OwnB B (wr.setCell p u) v L := ownsRow_setCell_below h hp u
theorem OwnB.cut {B g cap : Nat} {wr : World} {L M : List Nat} (h : OwnB B wr (.slice (some ⟨g, 0, none⟩) L.length cap) L) (hp : M <+: L) : OwnB B wr (.slice (some ⟨g, 0, none⟩) M.length cap) M := by
  obtain ⟨hl, h1⟩ := h
  have hml := hp.length_le
  rcases h1 with ⟨h2, _⟩ | ⟨g', cap', cur, h2, hg, hh, hc, hm, hs, ht⟩
  · cases h2
  · cases h2
    refine ⟨by simp [cel_len], .inr ⟨g, cap, cur, rfl, hg, hh, by omega, hm, hs, ?_⟩⟩
    obtain ⟨t, rfl⟩ := hp
    rw [Nat.mul_one] at *
    have : cur.toList.take M.length = (cur.toList.take (M ++ t).length).take M.length := by rw [List.take_take, Nat.min_eq_left (by simp)]
    rw [this, ht, cel_app]
    rw [List.take_left' (cel_len M)]
end Go.Proofs.YtdllbdfchloijaaDoor

/- The reference's numbers: divide by more than one digit; divide. -/
namespace Go.Proofs.YtdllbdfchloijaaDoor
open Num
open Go.ChangeShapes Go.WideShapes Go.ChangeAt Go.RowKit
set_option linter.unusedVariables false
set_option linter.unusedSimpArgs false

end Go.Proofs.YtdllbdfchloijaaDoor

/- The reference's numbers: divide. -/
namespace Go.Proofs.YtdllbdfchloijaaDoor
open Num
open Go.ChangeShapes Go.WideShapes Go.ChangeAt Go.RowKit
set_option linter.unusedVariables false
set_option linter.unusedSimpArgs false
end Go.Proofs.YtdllbdfchloijaaDoor

/- vm's laws: the numbers that come in, as the program's blocks and as the reference's. -/
namespace Go.Proofs.YtdllbdfchloijaaDoor
open Num
open Go.ChangeShapes Go.WideShapes Go.ChangeAt Go.RowKit
set_option linter.unusedVariables false
set_option linter.unusedSimpArgs false
/-- fits in an int64 -/
def I64 (x : Int) : Prop := -9223372036854775808 ≤ x ∧ x ≤ 9223372036854775807
/-- a list of ints that came in -/
def RowI (w : World) (v : Value) (l : List Int) : Prop := ∃ a c, v = .slice a l.length c ∧ ∀ k, k < l.length → ∃ b off, a = some ⟨b, off, none⟩ ∧ w.cell? ⟨b, off + k, none⟩ = some (.int .i64 (l.getD k 0)) ∧ I64 (l.getD k 0)
theorem RowI.keep {w w' : World} {v : Value} {l : List Int} (h : RowI w v l) (hb : Below w.heap.size w w') : RowI w' v l := by
  obtain ⟨a, c, h1, h2⟩ := h
  exact ⟨a, c, h1, fun k hk => by obtain ⟨b, off, h3, h4, h5⟩ := h2 k hk; exact ⟨b, off, h3, bkeep hb h4, h5⟩⟩
/-- a list of such lists -/
def GridI (w : World) (v : Value) (g : Grid) : Prop := ∃ a c, v = .slice a g.length c ∧ ∀ k, k < g.length → ∃ b off u, a = some ⟨b, off, none⟩ ∧ w.cell? ⟨b, off + k, none⟩ = some u ∧ RowI w u (g.getD k [])
theorem GridI.keep {w w' : World} {v : Value} {g : Grid} (h : GridI w v g) (hb : Below w.heap.size w w') : GridI w' v g := by
  obtain ⟨a, c, h1, h2⟩ := h
  exact ⟨a, c, h1, fun k hk => by obtain ⟨b, off, u, h3, h4, h5⟩ := h2 k hk; exact ⟨b, off, u, h3, bkeep hb h4, h5.keep hb⟩⟩
theorem OwnF.congr' {R : World → Value → Int → Prop} {E : TypeId} {w0 wr : World} {v : Value} {n : Nat} {f f' : Nat → Int} (h : OwnF R E w0 wr v n f) (he : ∀ k, k < n → f k = f' k) : OwnF R E w0 wr v n f' := by
  obtain ⟨xs, h1, h2⟩ := h
  exact ⟨xs, h1, fun k hk => by rw [← he k hk]; exact h2 k hk⟩
theorem snoc_fun (l : List Int) (j : Nat) (hj : j < l.length) : ∀ k, k < j + 1 → (fun i => if i = j then l.getD j 0 else l.getD i 0) k = l.getD k 0 := by
  intro k hk; dsimp only; split
  · subst_vars; rfl
  · rfl
end Go.Proofs.YtdllbdfchloijaaDoor

