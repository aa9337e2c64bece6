/- Texts of this seat, laid together: RefJ, RefK, RefL, VwA, RwA, RwB, RwC, RwD, RefM, RefP, Bdc, VwE. What each theorem proves, and under which conditions, its statement says. -/
import Derived.Test.YtbmaffijncapiaaGreatDoorB08
import Derived.RegionTactic
import Derived.ChangeAlike
import Derived.Laws.OwnMore
import Derived.Deep.Onto
set_option maxRecDepth 100000
set_option maxHeartbeats 32000000
set_option linter.unusedVariables false
set_option linter.unusedSimpArgs false
namespace Go.Proofs.YtbmaffijncapiaaGreatDoor
open Go.ChangeShapes Go.WideShapes Go.ChangeAt Go.RowKit
section
open Num
def NewN (w' : World) (u : Value) (v : Nat) : Prop := ∃ a c L, u = .slice a (List.length L) c ∧ U32 w' a c L ∧ NumR.Limbs L ∧ Nrm L ∧ NumR.val L = v
theorem NewN.keep {w w' : World} {u : Value} {v : Nat} (h : NewN w u v) (hb : Below w.heap.size w w') : NewN w' u v := by
 obtain ⟨a, c, L, h1, h2, h3⟩ := h
 exact ⟨a, c, L, h1, h2.keep hb, h3⟩
theorem rnormU (a : Option Addr) (ca : Nat) (l : List Nat) (w : World) (ha : U32 w a ca l) (hr : NumR.Limbs l) :
 Calls Tryz.prog 117 #[.bool false, .slice a l.length ca] w fun e w' => (∃ u, e = .returned (.agg #[.bool false, u]) ∧ NewN w' u (NumR.val l)) ∧ Below w.heap.size w w' :=
 (rnormK_c false a ca l w ha).mono fun e w' ⟨he, hb⟩ => ⟨⟨_, by rw [he]; rfl, a, ca, trimL l, rfl, (ha.cap (trim_prefix l)).keep hb, NumR.trim_limbs hr, trim_nrm l, NumR.val_trim l⟩, hb⟩
def OwnB (B : Nat) (wr : World) (v : Value) (L : List Nat) : Prop := wr.ownsRow B 177 1 v L.length (cel L)
theorem OwnB.below {B : Nat} {wr w' : World} {v : Value} {L : List Nat} (h : OwnB B wr v L) (hb : Below wr.heap.size wr w') : OwnB B w' v L := own_below (w0 := wr) h hb
theorem OwnB.u32 {B : Nat} {w : World} {v : Value} {L : List Nat} (h : OwnB B w v L) (hL : Limbs L) : ∃ a c, v = .slice a L.length c ∧ U32 w a c L := own_u32 h hL
theorem OwnB.nil (B : Nat) (w : World) : OwnB B w (.slice none 0 0) [] := World.ownsRow_nil _ _ _ _
theorem OwnB.of {B : Nat} {w0 wr : World} {v : Value} {L : List Nat} (h : Own32 w0 wr v L) (hB : B ≤ w0.heap.size) : OwnB B wr v L := World.ownsRow.mono h.1 hB
theorem OwnB.ex {B : Nat} {wr : World} {v : Value} {L : List Nat} (h : OwnB B wr v L) : (v = .slice none 0 0 ∧ L = []) ∨ ∃ g cap, v = .slice (some ⟨g, 0, none⟩) L.length cap ∧ B ≤ g ∧ L.length ≤ cap := by
 obtain ⟨h0, h⟩ := h
 rcases h with ⟨rfl, h1⟩ | ⟨g, cap, cur, rfl, hg, _, hc, _⟩
 · exact .inl ⟨rfl, List.length_eq_zero_iff.1 h1⟩
 · exact .inr ⟨g, cap, rfl, hg, hc⟩
theorem OwnB.cell {B g cap : Nat} {wr : World} {L : List Nat} (h : OwnB B wr (.slice (some ⟨g, 0, none⟩) L.length cap) L) (k : Nat) (hk : k < L.length) : wr.cell? ⟨g, k, none⟩ = some (.int .u32 (L.getD k 0 : Nat)) := by
 rw [World.ownsRow.cellAt h k (by omega), cel_get L k hk]
theorem OwnB.frozen {B g cap : Nat} {wr : World} {L : List Nat} (h : OwnB B wr (.slice (some ⟨g, 0, none⟩) L.length cap) L) (k : Nat) : wr.frozen? ⟨g, k, none⟩ = false := World.ownsRow.frozenAt h k
theorem OwnB.set {B g cap : Nat} {wr : World} {L : List Nat} (h : OwnB B wr (.slice (some ⟨g, 0, none⟩) L.length cap) L) (k x : Nat) (hk : k < L.length) : OwnB B (wr.setCell ⟨g, k, none⟩ (.int .u32 (x : Int))) (.slice (some ⟨g, 0, none⟩) (L.set k x).length cap) (L.set k x) := by
 obtain ⟨hl, h1⟩ := h
 rcases h1 with ⟨h2, _⟩ | ⟨g', cap', cur, h2, hg, hh, hc, hm, hs, ht⟩
 · cases h2
 · cases h2
   refine ⟨by simp [cel_len], .inr ⟨g, cap, cur.setIfInBounds k (.int .u32 (x : Int)), rfl, hg, ?_, by simpa using hc, hm, by simpa using hs, ?_⟩⟩
   · unfold World.setCell
     simp only [Array.getElem?_modify, if_true]
     rw [hh]; rfl
   · rw [Array.toList_setIfInBounds, List.length_set, List.take_set, ht]
     simp [cel, List.map_set]
theorem OwnB.far {B : Nat} {wr : World} {v : Value} {L : List Nat} (h : OwnB B wr v L) {p : Addr} (hp : p.block < B) (u : Value) : OwnB B (wr.setCell p u) v L := ownsRow_setCell_below h hp u
theorem OwnB.cut {B g cap : Nat} {wr : World} {L M : List Nat} (h : OwnB B wr (.slice (some ⟨g, 0, none⟩) L.length cap) L) (hp : M <+: L) : OwnB B wr (.slice (some ⟨g, 0, none⟩) M.length cap) M := by
 obtain ⟨hl, h1⟩ := h
 have hml := hp.length_le
 rcases h1 with ⟨h2, _⟩ | ⟨g', cap', cur, h2, hg, hh, hc, hm, hs, ht⟩
 · cases h2
 · cases h2
   refine ⟨by simp [cel_len], .inr ⟨g, cap, cur, rfl, hg, hh, by omega, hm, hs, ?_⟩⟩
   obtain ⟨t, rfl⟩ := hp
   rw [Nat.mul_one] at *
   have : cur.toList.take M.length = (cur.toList.take (M ++ t).length).take M.length := by rw [List.take_take, Nat.min_eq_left (by simp)]
   rw [this, ht, cel_app]
   rw [List.take_left' (cel_len M)]
theorem OwnB.cut' {B : Nat} {wr : World} {a : Option Addr} {cap : Nat} {L M : List Nat} (h : OwnB B wr (.slice a L.length cap) L) (hp : M <+: L) : OwnB B wr (.slice a M.length cap) M := by
 rcases h.ex with ⟨h1, h2⟩ | ⟨g, c, h1, _⟩
 · subst h2
   obtain rfl : M = [] := List.prefix_nil.1 hp
   exact h
 · cases h1
   exact h.cut hp
theorem appB32 {ops : Array Oper} {rest : List Oper} {o : Oper} {a : Act} {Q : Exit → Act → World → Prop} {B : Nat} {wr : World} {v : Value} {L X : List Nat} {t : TypeId} (hgd : o.guard = none) {s x : Operand}
 (ho : o.op = .call { callee := .builtin .append, args := #[s, x], argTypes := #[48, 48] }) (hO : OwnB B wr v L) (hB : B ≤ wr.heap.size) (hs : a.eval s = v)
 {c : Nat} (hx : a.eval x = .slice (some ⟨wr.heap.size, 0, none⟩) X.length c) (hn : L.length + X.length ≤ 1099511627776)
 (h : ∀ v' w', OwnB B w' v' (L ++ X) → Out (fun k => v.ownBlock = some k) wr w' → wpList Tryz.prog ops Q rest (a.put o.dst v') w') : wpList Tryz.prog ops Q (o :: rest) a (wr.alloc (.cells (cel X).toArray t)) := by
 obtain ⟨i0, hi, hz0, hz1, hz2⟩ := info_parts info32
 refine wpList_append_own _ hgd s x 48 ho B 177 i0 (.int .u32 0) 1 4 Tryz.underlying48 hi hz0 hz1 hz2 rfl (by decide) v L.length (cel L) hs (World.ownsRow.alloc hO _) ⟨wr.heap.size, 0, none⟩ X.length c (cel X) hx (by rw [cel_len, Nat.mul_one]) (cells_new wr (cel X) t) (cel_one X) (by unfold maxLen; omega) (by omega) (by simp; omega) ?_
 intro v' w' hown hg _
 refine h v' w' (by unfold OwnB; rw [cel_app, List.length_append]; exact hown) (((Out.refl _ wr).alloc _).grown hg fun k hk _ => hk)

theorem fieldD (b : Bool) (a : Option Addr) (n c : Nat) (W : World) : (Instr.field 56 (.agg #[.bool b, .slice a n c]) 1).run Tryz.prog W = .ok (.slice a n c) W := by kernel_rfl

theorem rdiv1_c (a b : Option Addr) (ca cb : Nat) (A : List Nat) (c : Nat) (w : World) (ha : U32 w a ca A) (hb : U32 w b cb [c]) (hA : NumR.Limbs A) (hcB : c < NumR.BB) (hc : 0 < c) (h1 : A.length ≤ 2147483650) :
 Calls Tryz.prog 116 #[.slice a A.length ca, .slice b 1 cb] w fun e w' => (∃ u v, e = .returned (.tuple #[u, v]) ∧ NewN w' u (NumR.val A / c) ∧ NewN w' v (NumR.val A % c)) ∧ Below w.heap.size w w' := by
 rcases hb.2.2.2 with hn | ⟨bb, ob, rfl, hcell⟩
 · cases hn
 have c0 := hcell 0 (by simp)
 simp only [List.getD_cons_zero, Nat.add_zero] at c0
 have hmk := mk32 A.length (by omega)
 have hbz := cell_lt c0
 have hbne : bb ≠ w.heap.size := by omega
 have hbne' : w.heap.size ≠ bb := by omega
 have hcz : ((c : Int) == 0) = false := by simp; omega
 have hc' : c < 65536 := hcB
 clear hcell
 go_enter Tryz.func116, Tryz.ntmps116
 go_wp2
 clear hmk
 go_loopw [7, 8] (fun rx x wr => ∃ (k r : Nat) (O : List Nat), k ≤ A.length ∧ x = .int .i64 ((k : Int) - 1) ∧ rx = .int .u64 r ∧ r < c ∧ Blk wr w.heap.size O ∧ Hid (O.length = A.length) ∧ NumR.Limbs O ∧ Hid (∀ j, j < k → O.getD j 0 = 0) ∧ Hid (NumR.val O * c + r * NumR.BB ^ k + NumR.val (A.take k) = NumR.val A) ∧ Below w.heap.size w wr) (fun _ x _ => (intOf x + 1).toNat)
 case atStart => exact ⟨A.length, 0, List.replicate A.length 0, Nat.le_refl _, rfl, rfl, hc, blk_new w _, hZ (by simp), (fun y hy => by simp at hy; rw [hy.2]; exact NumR.BB_pos), hZ (fun j hj => by simp [List.getElem?_replicate, hj]), hZ (by rw [NumR.val_zeros]; simp), bal (Below.refl _ _) _⟩
 case round =>
  obtain ⟨k, r, O, hk, rfl, rfl, hr, hO, hOl, hOL, hO0, hV, hB⟩ := hrel
  have d0 := bkeep hB c0
  cases k with
  | zero =>
   have HD := hZ (kn_done (N := NumR.val A) (D := c) (g := NumR.val O) (W := r) hc (by
    have h := hV.out
    simp [NumR.val] at h
    rw [← h, Nat.add_comm, Nat.add_mul_div_right _ _ hc, Nat.div_eq_of_lt hr, Nat.zero_add]; exact Nat.le_refl _) (by have h := hV.out; simp [NumR.val] at h; rw [Nat.mul_comm]; omega))
   have hu := hO.u32 (limbs_of_r hOL) (by have := hOl.out; unfold maxLen; omega)
   have nc := fun W (h : Below wr.heap.size wr W) => rnormU (some ⟨w.heap.size, 0, none⟩) O.length O W (hu.keep h) hOL
   rw [hOl.out] at nc
   have nd := fun (g : Nat) (W : World) (hg : g = W.heap.size) => rnormU (some ⟨g, 0, none⟩) 1 [r] (W.alloc (.cells (cel [r]).toArray 177)) ((blk_at hg).u32 (fun x hx => by simp at hx; subst hx; unfold NumR.BB at hcB; unfold BB; omega) (by simp [maxLen])) (fun x hx => by simp at hx; subst hx; omega)
   have hr32 : (r : Int) % 4294967296 = (r : Int) := by omega
   clear hu hV hO hOL hOl
   have hfd := fieldD
   go_wp2_with fail
   (with_reducible refine (nc _ (Below.refl _ _)).mono ?_)
   rintro e w1 ⟨⟨u, rfl, hq⟩, hb1⟩
   have HQ := hZ hq
   obtain ⟨a1, n1, L1, rfl, -⟩ := hq
   clear nc
   go_wp2_with fail
   refine (nd _ _ rfl).mono ?_
   rintro e w2 ⟨⟨u2, rfl, hq⟩, hb2⟩
   have HR := hZ hq
   obtain ⟨a2, n2, L2, rfl, -⟩ := hq
   go_wp2
   go_ret2
   exact ⟨⟨_, _, rfl, by rw [HD.out.1]; exact HQ.out.keep (bthen (bal (Below.refl _ _) _) hb2), by rw [HD.out.2]; have := HR.out; simpa [NumR.val] using this⟩, bthen (bal (bthen hB hb1) _) hb2⟩
  | succ j =>
   rcases ha.2.2.2 with hl0 | ⟨ba, oa, rfl, hca⟩
   · subst hl0; simp at hk
   have c1 := bkeep hB (hca j (by omega))
   have hx := NumR.limb_get hA j
   have q0 := hO.cell j (by have := hOl.out; omega)
   have qf := hO.frozen j
   have HS := hZ (NumR.short_step (O := O) (A := A) (j := j) (c := c) (rest := r) hc (by have := hOl.out; omega) (hO0.out j (by omega)) (by omega) hV.out)
   have hql := NumR.short_lt hr hx
   have hrl := Nat.mod_lt (r * NumR.BB + A.getD j 0) hc
   generalize A.getD j 0 = x at *
   generalize O.getD j 0 = o at *
   have hx' : x < 65536 := hx
   obtain ⟨t, ht⟩ : ∃ t, t = r * NumR.BB + x := ⟨_, rfl⟩
   rw [← ht] at HS hql hrl
   have et : (r : Int) * 65536 + (x : Int) = (t : Int) := by unfold NumR.BB at ht; omega
   have htB : t < 4294967296 := by unfold NumR.BB at ht; omega
   have e3 : (t : Int) / (c : Int) = ((t / c : Nat) : Int) := rfl
   have e4 : (t : Int) % (c : Int) = ((t % c : Nat) : Int) := rfl
   have e3' : (t : Int).tdiv (c : Int) = ((t / c : Nat) : Int) := rfl
   have e4' : (t : Int).tmod (c : Int) = ((t % c : Nat) : Int) := rfl
   generalize t / c = q at *
   generalize t % c = r2 at *
   have hq' : q < 65536 := hql
   have e6 : (q : Int) % 4294967296 = (q : Int) := by omega
   have qb := hO.set j q
   have ql := NumR.limbs_set hOL (k := j) hql
   have bs := bset hB (p := ⟨w.heap.size, j, none⟩) (Nat.le_refl _) (.int .u32 (q : Int))
   clear ht
   go_wp2
   refine ⟨⟨j, r2, O.set j q, by omega, by go_num, rfl, hrl, qb, hZ (by simpa using hOl.out), ql, hZ ?_, HS, bs⟩, by simp [intOf] <;> omega⟩
   intro i hi
   rw [Num.getD_set_ne (by omega)]
   exact hO0.out i (by omega)
end
section
open Num

theorem rdivL_c (a b : Option Addr) (ca cb : Nat) (A B : List Nat) (w : World) (ha : U32 w a ca A) (hb : U32 w b cb B) (hA : NumR.Limbs A) (hB : NumR.Limbs B) (hAn : Nrm A) (hBn : Nrm B) (hB1 : B.length ≠ 1) (hD0 : 0 < NumR.val B) (h1 : A.length ≤ 1073741826) (h2 : B.length ≤ 1073741826) :
 Calls Tryz.prog 116 #[.slice a A.length ca, .slice b B.length cb] w fun e w' => (∃ u v, e = .returned (.tuple #[u, v]) ∧ NewN w' u (NumR.val A / NumR.val B) ∧ NewN w' v (NumR.val A % NumR.val B)) ∧ Below w.heap.size w w' := by
 have hbz : ((B.length : Int) == 1) = false := by rw [beq_eq_false_iff_ne]; omega
 have hmk := mk32 A.length (by omega)
 have bc := fun W (h : Below w.heap.size w W) => rbits_c a ca A W (ha.keep h) hA hAn (by omega)
 have hbits : bitN (NumR.val A) ≤ 16 * A.length := NumR.bitN_le (by have := NumR.val_lt hA; rwa [NumR.BB_pow] at this)
 have HA2 := hZ (show NumR.val A / 2 ^ bitN (NumR.val A) = 0 from Nat.div_eq_of_lt (NumR.lt_bitN _))
 generalize bitN (NumR.val A) = n at *
 have hfd := fieldD
 have HD0 := hZ hD0
 have hB00 := Below.refl w.heap.size w
 clear hB1 hD0
 go_enter Tryz.func116, Tryz.ntmps116
 go_wp2_with fail
 (with_reducible refine (bc _ bZ).mono ?_)
 rintro e w1 ⟨rfl, rfl⟩
 clear bc hmk
 go_wp2
 go_loopw [10, 11] (fun rv x wr => ∃ (k : Nat) (Q R : List Nat), k ≤ n ∧ x = .int .i64 ((k : Int) - 1) ∧ Blk wr w.heap.size Q ∧ OwnB (w.heap.size + 1) wr rv R ∧ Hid (Q.length = A.length) ∧ NumR.Limbs Q ∧ NumR.Limbs R ∧ Hid (Nrm R) ∧ Hid (∃ q, NumR.val Q = q * 2 ^ k ∧ NumR.val A / 2 ^ k = q * NumR.val B + NumR.val R) ∧ Hid (NumR.val R < NumR.val B) ∧ Below w.heap.size w wr) (fun _ x _ => (intOf x + 1).toNat)
 case atStart => exact ⟨n, List.replicate A.length 0, [], Nat.le_refl _, rfl, blk_new w _, OwnB.nil _ _, hZ (by simp), (fun y hy => by simp at hy; rw [hy.2]; exact NumR.BB_pos), (fun _ h => by cases h), hZ (fun h => absurd rfl h), hZ ⟨0, by rw [NumR.val_zeros]; simp, by rw [HA2.out]; simp [NumR.val]⟩, hZ HD0.out, bal (Below.refl _ _) _⟩
 case round =>
  obtain ⟨k, Q, R, hk, rfl, hQ, hR, hQl, hQL, hRL, hRn, hV, hlt, hBw⟩ := hrel
  cases k with
  | zero =>
   obtain ⟨a9, c9, rfl, hRu⟩ := hR.u32 (limbs_of_r hRL)
   have hu := hQ.u32 (limbs_of_r hQL) (by have := hQl.out; unfold maxLen; omega)
   have nc := fun W (h : Below wr.heap.size wr W) => rnormU (some ⟨w.heap.size, 0, none⟩) Q.length Q W (hu.keep h) hQL
   rw [hQl.out] at nc
   have HD := hZ (show NumR.val A / NumR.val B = NumR.val Q ∧ NumR.val A % NumR.val B = NumR.val R by
    obtain ⟨q, h1, h2⟩ := hV.out
    simp at h1 h2
    have h3 := hlt.out
    rw [h1]
    constructor
    · rw [h2, Nat.add_comm, Nat.add_mul_div_right _ _ HD0.out, Nat.div_eq_of_lt h3, Nat.zero_add]
    · rw [h2, Nat.add_comm, Nat.add_mul_mod_self_right, Nat.mod_eq_of_lt h3])
   clear hu hV hQ hR hQl hlt
   go_wp2_with fail
   (with_reducible refine (nc _ (Below.refl _ _)).mono ?_)
   rintro e w1 ⟨⟨u, rfl, hq⟩, hb1⟩
   have HQ := hZ hq
   obtain ⟨a1, n1, L1, rfl, -⟩ := hq
   clear nc
   go_wp2
   go_ret2
   exact ⟨⟨_, _, rfl, by rw [HD.out.1]; exact HQ.out, ⟨a9, c9, R, rfl, hRu.keep hb1, hRL, hRn.out, HD.out.2.symm⟩⟩, bthen hBw hb1⟩
  | succ j =>
   have tc := fun W (h : Below w.heap.size w W) => rbit_c a ca A j W (ha.keep h) hA (by omega) (by omega)
   have hbt : NumR.val A / 2 ^ j % 2 ≤ 1 := by omega
   obtain ⟨bt, hbte⟩ : ∃ bt, bt = NumR.val A / 2 ^ j % 2 := ⟨_, rfl⟩
   rw [← hbte] at tc hbt
   have HBIT := hZ hbte
   clear hbte
   have HRL := hZ (show R.length ≤ B.length from by
    apply Nat.le_of_not_lt; intro h
    have := NumR.val_lt_of_len hB hRn.out h
    have := hlt.out
    omega)
   have HJ := hZ (show j / 16 < A.length by omega)
   go_wp2_with fail
   (with_reducible refine (tc _ hBw).mono ?_)
   rintro e w2 ⟨rfl, rfl⟩
   clear tc
   obtain ⟨a9, c9, rfl, -⟩ := hR.u32 (limbs_of_r hRL)
   have hbt' : bt < 65536 := by omega
   have hRm : R.length ≤ 1073741826 := by have := HRL.out; omega
   go_wp2
   go_loopw [12, 13] (fun cx x wi => ∃ (i c : Nat) (T : List Nat), i ≤ R.length ∧ x = .int .i64 i ∧ cx = .int .u32 c ∧ c ≤ 1 ∧ Blk wi w.heap.size Q ∧ OwnB (w.heap.size + 1) wi (.slice a9 R.length c9) T ∧ Hid (T.length = R.length) ∧ NumR.Limbs T ∧ Hid (∀ m, i ≤ m → T.getD m 0 = R.getD m 0) ∧ Hid (NumR.val T + c * NumR.BB ^ i = (NumR.val R + bt) + NumR.val (R.take i)) ∧ Below w.heap.size w wi) (fun _ x _ => R.length - (intOf x).toNat)
   case atStart => exact ⟨0, bt, R, Nat.zero_le _, rfl, rfl, hbt, hQ, hR, hZ rfl, hRL, hZ (fun _ _ => rfl), hZ (by simp [NumR.val]), hBw⟩
   case round =>
    rename World => wi
    obtain ⟨i, c, T, hi, rfl, rfl, hc1, hQ2, hR2, hTl, hR2L, hT0, hTV, hBw⟩ := hrel
    by_cases hir : i < R.length
    · have hirz : (i : Int) < (R.length : Int) := by omega
      have hR2' := hR2
      rw [← hTl.out] at hR2'
      rcases hR2'.ex with ⟨h0, hT⟩ | ⟨g, cap, hv, hg, hcap⟩
      · exfalso; have := hTl.out; rw [hT] at this; simp at this; omega
      cases hv
      have q0 := hR2'.cell i (by have := hTl.out; omega)
      have qf := hR2'.frozen i
      have hx := NumR.limb_get hR2L i
      have HS := hZ (fun t ht => NumR.twice_step (R := T) (R0 := R) (i := i) (c := c) (t := t) (V := NumR.val R + bt) (by have := hTl.out; omega) (hT0.out i (Nat.le_refl _)) ht hTV.out)
      rw [← hT0.out i (Nat.le_refl _)] at HS
      generalize T.getD i 0 = x at *
      have hx' : x < 65536 := hx
      have e1 : IntKind.u32.wrap (2 * (x : Int)) = 2 * (x : Int) := by rw [show 2 * (x : Int) = ((2 * x : Nat) : Int) by omega]; exact w32 (by unfold BB; omega)
      have e2 : IntKind.u32.wrap ((c : Int) + 2 * (x : Int)) = (c : Int) + 2 * (x : Int) := by rw [show (c : Int) + 2 * (x : Int) = ((c + 2 * x : Nat) : Int) by omega]; exact w32 (by unfold BB; omega)
      have HS2 := hZ (HS.out (c + 2 * x) rfl)
      have hmB : (c + 2 * x) % NumR.BB < NumR.BB := Nat.mod_lt _ NumR.BB_pos
      have hdB : (c + 2 * x) / NumR.BB ≤ 1 := by unfold NumR.BB; omega
      obtain ⟨lo, hlo⟩ : ∃ lo, lo = (c + 2 * x) % NumR.BB := ⟨_, rfl⟩
      obtain ⟨up, hup⟩ : ∃ up, up = (c + 2 * x) / NumR.BB := ⟨_, rfl⟩
      rw [← hlo] at HS2 hmB
      rw [← hup] at HS2 hdB
      have g1 : ((c : Int) + 2 * (x : Int)) % 65536 = (lo : Int) := by unfold NumR.BB at hlo; omega
      have g2 : ((c : Int) + 2 * (x : Int)) / 65536 = (up : Int) := by unfold NumR.BB at hup; omega
      have g3 : ((c : Int) + 2 * (x : Int)).tmod 65536 = (lo : Int) := by rw [Int.tmod_eq_emod_of_nonneg (by omega)]; exact g1
      have g4 : ((c : Int) + 2 * (x : Int)).tdiv 65536 = (up : Int) := by rw [Int.tdiv_eq_ediv_of_nonneg (by omega)]; exact g2
      have qb := hR2'.set i lo (by have := hTl.out; omega)
      have qq := hQ2.far ⟨g, i, none⟩ (.int .u32 (lo : Int)) (by show w.heap.size ≠ g; omega)
      have ql := NumR.limbs_set hR2L (k := i) hmB
      have bs := bset hBw (p := ⟨g, i, none⟩) (by show w.heap.size ≤ g; omega) (.int .u32 (lo : Int))
      rw [List.length_set, hTl.out] at qb
      clear hlo hup HS hR2 hR2' hQ2
      go_wp2
      refine ⟨⟨i + 1, up, T.set i lo, by omega, by go_num, rfl, hdB, qq, qb, hZ (by simpa using hTl.out), ql, hZ ?_, HS2, bs⟩, by simp [intOf] <;> omega⟩
      intro m hm
      rw [Num.getD_set_ne (by omega)]
      exact hT0.out m (by omega)
    · obtain rfl : i = R.length := by omega
      have HV2 := hZ (show NumR.val T + c * NumR.BB ^ T.length = bt + 2 * NumR.val R by
       have := hTV.out
       rw [List.take_length] at this
       rw [hTl.out]; omega)
      have HLEN := hTl
      clear hTV hT0
      -- behind the doubling: c is what is carried out of T
      rcases (show c = 0 ∨ c = 1 by omega) with rfl | rfl
      · have HV3 := hZ (show NumR.val (T) = bt + 2 * NumR.val R by have := HV2.out; simpa using this)
        have HN3 := hZ (show Nrm (T) from NumR.nrm_of_val hR2L fun hne => by
         have h1 := HLEN.out
         have h2 := NumR.nrm_val_pos hRn.out (by intro e; apply hne; apply List.length_eq_zero_iff.1; rw [h1, e]; rfl)
         rw [HV3.out, h1]; omega)
        have hR3 := hR2
        have hQ3 := hQ2
        have hR3L := hR2L
        clear hR2 hQ2 HV2
        -- the rest, twice and a digit more, lies in .slice a9 R.length c9
        obtain ⟨a3, k3, hv3, hU3⟩ := hR3.u32 (limbs_of_r hR3L)
        have zc := fun W h1 h2 => rsize_c a3 b k3 cb (T) B W h1 h2 hR3L hB HN3.out hBn
        have HV3s := hZ hv3
        rw [← hv3] at zc
        clear hv3
        by_cases hge : NumR.val B ≤ NumR.val (T)
        · have hnl : ¬ NumR.val (T) < NumR.val B := by omega
          have hz : (0 : Int) ≤ cmpN (NumR.val (T)) (NumR.val B) := by have := (cmpN_neg (x := NumR.val (T)) (y := NumR.val B)); rw [decide_eq_false hnl] at this; have := of_decide_eq_false this; omega
          have HMIN := hZ (fun W (h1 : U32 W a3 k3 (T)) h2 => rminus_c a3 b k3 cb (T) B W h1 h2 hR3L hB (by
           apply Nat.le_of_lt_succ
           have := HLEN.out
           have := HRL.out
           simp <;> omega) (by
           apply Nat.le_of_not_lt; intro h
           have := NumR.val_lt_of_len hR3L hBn h
           omega) hge)
          have HSUB := hZ (show ∀ O : List Nat, NumR.val O + NumR.val B = NumR.val (T) → NumR.val (trimL O) = NumR.val (T) - NumR.val B from fun O h => by rw [NumR.val_trim]; omega)
          have HSTEP := hZ (show ∃ q, NumR.val Q = q * 2 ^ (j + 1) ∧ (∃ q', NumR.val Q + 2 ^ j = q' * 2 ^ j ∧ NumR.val A / 2 ^ j = q' * NumR.val B + (NumR.val (T) - NumR.val B)) by
           obtain ⟨q, h1, h2⟩ := hV.out
           obtain ⟨h3, h4⟩ := NumR.bit_take h2 HBIT.out h1
           rw [← HV3.out] at h3
           obtain ⟨h5, h6⟩ := NumR.bit_more h3 hge h4
           exact ⟨q, h1, 2 * q + 1, h6, h5⟩)
          have HLT := hZ (show NumR.val (T) - NumR.val B < NumR.val B by
           have := HV3.out
           have := hlt.out
           omega)
          have HOR := hZ (by
           obtain ⟨q, h1, h2⟩ := hV.out
           exact NumR.or_val (l := Q) (k := j) (Q := q) hQL h1)
          have HMORE := hZ (NumR.set_bit (l := Q) (k := j) (by have := hQl.out; have := HJ.out; omega))
          generalize cmpN (NumR.val (T)) (NumR.val B) = z at *
          clear hge hnl
          go_wp2_with fail
          (with_reducible refine (zc _ hU3 (hb.keep hBw)).mono ?_)
          rintro e w5 ⟨rfl, hb5⟩
          have hR5 := hR3.below hb5
          have hU5 := hU3.keep hb5
          have hQ5 := hQ3.keep hb5
          have hB5 := bthen hBw hb5
          have mc := HMIN.out
          rw [← HV3s.out] at mc
          clear zc hR3 hQ3 hU3
          go_wp2_with fail
          (with_reducible refine (mc _ hU5 (hb.keep hB5)).mono ?_)
          rintro e w6 ⟨v6, rfl, O, hO, hOL, hOl, hOv⟩
          have HOv := hZ hOv
          clear hOv hOl
          obtain ⟨aO, cO, rfl, hOu⟩ := hO.u32 (limbs_of_r hOL)
          have hB6 := bthen hB5 hO.2
          have hQ6 := hQ5.keep hO.2
          have hOB := OwnB.of hO (B := w.heap.size + 1) hQ5.lt
          clear mc hU5 hR5 hQ5 hO
          go_wp2_with fail
          (with_reducible refine (rnormK_c false aO cO O _ hOu).mono ?_)
          rintro e w7 ⟨rfl, hb7⟩
          unfold iv
          have hQ4 := hQ6.keep hb7
          have hB7 := bthen hB6 hb7
          have hRT := (hOB.below hb7).cut' (trim_prefix O)
          have HRT := hZ (And.intro (NumR.trim_limbs hOL) (And.intro (trim_nrm O) (HSUB.out O HOv.out)))
          generalize trimL O = T4 at *
          clear hOB hOu hQ6 HOv hOL
          go_wp2
          -- a binary digit of the quotient is set, in the world w7; the rest is T4
          have q0 := hQ4.cell (j / 16) (by have := hQl.out; have := HJ.out; omega)
          have qf := hQ4.frozen (j / 16)
          have ho := HOR.out
          obtain ⟨jq, hjq⟩ : ∃ jq, jq = j / 16 := ⟨_, rfl⟩
          obtain ⟨jm, hjm⟩ : ∃ jm, jm = j % 16 := ⟨_, rfl⟩
          have g1 : (j : Int) / 16 = (jq : Int) := by omega
          have g1' : (j : Int).tdiv 16 = (jq : Int) := by rw [Int.tdiv_eq_ediv_of_nonneg (by omega)]; exact g1
          have g2 : (j : Int) % 16 = (jm : Int) := by omega
          have g2' : (j : Int).tmod 16 = (jm : Int) := by rw [Int.tmod_eq_emod_of_nonneg (by omega)]; exact g2
          have hjm16 : jm < 16 := by omega
          have hjqz : (jq : Int) < (A.length : Int) := by have := HJ.out; omega
          have qb := hQ4.set (j / 16) (Q.getD (j / 16) 0 + 2 ^ (j % 16))
          have ql := NumR.limbs_set hQL (k := j / 16) ho.2
          rw [← hjq] at q0 qf
          rw [← hjq, ← hjm] at qb ho
          have hpw : 2 ^ jm < 65536 := Nat.lt_of_lt_of_le (Nat.pow_lt_pow_right (by omega) hjm16) (by decide)
          have hvv := HMORE.out
          rw [← hjq, ← hjm] at hvv ql
          have hoB := NumR.limb_get hQL jq
          generalize Q.getD jq 0 = od at *
          obtain ⟨pw, hpw2⟩ : ∃ pw, pw = 2 ^ jm := ⟨_, rfl⟩
          have g3 : (2 : Int) ^ jm = (pw : Int) := by rw [hpw2, Int.natCast_pow]; rfl
          rw [← hpw2] at qb ho hpw hvv ql
          have g4 : bits .or .u32 (od : Int) (pw : Int) = ((od + pw : Nat) : Int) := by rw [u32_or_nat _ _ (by unfold NumR.BB at hoB; omega) (by omega), ho.1]
          have g5 : (pw : Int) % 4294967296 = (pw : Int) := by omega
          have g6 : IntKind.u32.wrap (1 * 2 ^ jm) = (pw : Int) := by rw [Int.one_mul, g3]; exact w32 (by unfold BB; omega)
          generalize od + pw = nd at *
          have HQL2 := hZ ql
          have HVV := hZ hvv
          clear ql hvv
          have HJQ := hZ (And.intro hjq (And.intro hjm hpw2))
          clear hjq hjm hpw2 ho hoB HOR HMORE
          go_region
          have HSQ := hZ (show ∃ q, NumR.val (Q.set jq nd) = q * 2 ^ j ∧ NumR.val A / 2 ^ j = q * NumR.val B + NumR.val T4 by
           obtain ⟨q, h1, q', h2, h3⟩ := HSTEP.out
           exact ⟨q', by rw [HVV.out]; exact h2, by rw [h3, HRT.out.2.2]⟩)
          have hRf := hRT.far (p := ⟨w.heap.size, jq, none⟩) (Nat.lt_succ_self _) (.int .u32 (nd : Int))
          have hBf := bset hB7 (p := ⟨w.heap.size, jq, none⟩) (Nat.le_refl _) (.int .u32 (nd : Int))
          clear q0 qf
          go_wp2
          exact ⟨⟨j, Q.set jq nd, T4, by omega, rfl, qb, hRf, hZ (by simpa using hQl.out), HQL2.out, HRT.out.1, hZ HRT.out.2.1, HSQ, hZ (by rw [HRT.out.2.2]; exact HLT.out), hBf.drew⟩, by simp [intOf] <;> omega⟩
        · have hnl : NumR.val (T) < NumR.val B := by omega
          have hz : ¬ (0 : Int) ≤ cmpN (NumR.val (T)) (NumR.val B) := by have := (cmpN_neg (x := NumR.val (T)) (y := NumR.val B)); rw [decide_eq_true hnl] at this; have := of_decide_eq_true this; omega
          have HLT := hZ (show NumR.val (T) < NumR.val B by omega)
          have HEQ := hZ (show ∃ q, NumR.val Q = q * 2 ^ j ∧ NumR.val A / 2 ^ j = q * NumR.val B + NumR.val (T) by
           obtain ⟨q, h1, h2⟩ := hV.out
           obtain ⟨h3, h4⟩ := NumR.bit_take h2 HBIT.out h1
           exact ⟨2 * q, h4, by rw [h3, HV3.out]⟩)
          generalize cmpN (NumR.val (T)) (NumR.val B) = z at *
          clear hge
          go_wp2_with fail
          (with_reducible refine (zc _ hU3 (hb.keep hBw)).mono ?_)
          rintro e w5 ⟨rfl, hb5⟩
          have hR5 := hR3.below hb5
          have hQ5 := hQ3.keep hb5
          have hB5 := bthen hBw hb5
          clear zc hR3 hQ3 hU3
          go_wp2
          exact ⟨⟨j, Q, T, by omega, rfl, hQ5, hR5, hQl, hQL, hR3L, HN3, HEQ, HLT, hB5⟩, by simp [intOf] <;> omega⟩
      · have HV3 := hZ (show NumR.val (T ++ [1]) = bt + 2 * NumR.val R by rw [NumR.val_snoc]; exact HV2.out)
        have hR3L := NumR.limbs_snoc hR2L (x := 1) (by unfold NumR.BB; omega)
        have HN3 := hZ (show Nrm (T ++ [1]) from fun _ => by simp)
        have hlm : (T).length ≤ 2147483652 := by have := HLEN.out; have := HRL.out; omega
        have hBs : w.heap.size + 1 ≤ (wi).heap.size := hQ2.lt
        have HO2 := hZ hR2.ex
        go_wp2_with (at_builtin; refine appB32 (X := [1]) rfl rfl hR2 hBs rfl rfl ?_ ?_; (simp; omega); intro v3 w3 hR3 ho3; (have hQ3 : Blk w3 w.heap.size Q := ho3.blk hQ2 (fun h => by rcases HO2.out with ⟨h1, _⟩ | ⟨g, cp, h1, h2, _⟩ <;> (rw [show Value.slice a9 R.length c9 = _ from h1] at h; simp [Value.ownBlock] at h) <;> omega)); (have hBw3 : Below w.heap.size w w3 := hBw.trans (ho3.to_below (fun k hk _ h => by rcases HO2.out with ⟨h1, _⟩ | ⟨g, cp, h1, h2, _⟩ <;> (rw [show Value.slice a9 R.length c9 = _ from h1] at h; simp [Value.ownBlock] at h) <;> omega) (by omega))); clear hR2 hQ2 ho3 HV2)
        have hBw := hBw3
        clear hBw3
        -- the rest, twice and a digit more, lies in v3
        obtain ⟨a3, k3, hv3, hU3⟩ := hR3.u32 (limbs_of_r hR3L)
        have zc := fun W h1 h2 => rsize_c a3 b k3 cb (T ++ [1]) B W h1 h2 hR3L hB HN3.out hBn
        have HV3s := hZ hv3
        rw [← hv3] at zc
        clear hv3
        by_cases hge : NumR.val B ≤ NumR.val (T ++ [1])
        · have hnl : ¬ NumR.val (T ++ [1]) < NumR.val B := by omega
          have hz : (0 : Int) ≤ cmpN (NumR.val (T ++ [1])) (NumR.val B) := by have := (cmpN_neg (x := NumR.val (T ++ [1])) (y := NumR.val B)); rw [decide_eq_false hnl] at this; have := of_decide_eq_false this; omega
          have HMIN := hZ (fun W (h1 : U32 W a3 k3 (T ++ [1])) h2 => rminus_c a3 b k3 cb (T ++ [1]) B W h1 h2 hR3L hB (by
           apply Nat.le_of_lt_succ
           have := HLEN.out
           have := HRL.out
           simp <;> omega) (by
           apply Nat.le_of_not_lt; intro h
           have := NumR.val_lt_of_len hR3L hBn h
           omega) hge)
          have HSUB := hZ (show ∀ O : List Nat, NumR.val O + NumR.val B = NumR.val (T ++ [1]) → NumR.val (trimL O) = NumR.val (T ++ [1]) - NumR.val B from fun O h => by rw [NumR.val_trim]; omega)
          have HSTEP := hZ (show ∃ q, NumR.val Q = q * 2 ^ (j + 1) ∧ (∃ q', NumR.val Q + 2 ^ j = q' * 2 ^ j ∧ NumR.val A / 2 ^ j = q' * NumR.val B + (NumR.val (T ++ [1]) - NumR.val B)) by
           obtain ⟨q, h1, h2⟩ := hV.out
           obtain ⟨h3, h4⟩ := NumR.bit_take h2 HBIT.out h1
           rw [← HV3.out] at h3
           obtain ⟨h5, h6⟩ := NumR.bit_more h3 hge h4
           exact ⟨q, h1, 2 * q + 1, h6, h5⟩)
          have HLT := hZ (show NumR.val (T ++ [1]) - NumR.val B < NumR.val B by
           have := HV3.out
           have := hlt.out
           omega)
          have HOR := hZ (by
           obtain ⟨q, h1, h2⟩ := hV.out
           exact NumR.or_val (l := Q) (k := j) (Q := q) hQL h1)
          have HMORE := hZ (NumR.set_bit (l := Q) (k := j) (by have := hQl.out; have := HJ.out; omega))
          generalize cmpN (NumR.val (T ++ [1])) (NumR.val B) = z at *
          clear hge hnl
          go_wp2_with fail
          (with_reducible refine (zc _ hU3 (hb.keep hBw)).mono ?_)
          rintro e w5 ⟨rfl, hb5⟩
          have hR5 := hR3.below hb5
          have hU5 := hU3.keep hb5
          have hQ5 := hQ3.keep hb5
          have hB5 := bthen hBw hb5
          have mc := HMIN.out
          rw [← HV3s.out] at mc
          clear zc hR3 hQ3 hU3
          go_wp2_with fail
          (with_reducible refine (mc _ hU5 (hb.keep hB5)).mono ?_)
          rintro e w6 ⟨v6, rfl, O, hO, hOL, hOl, hOv⟩
          have HOv := hZ hOv
          clear hOv hOl
          obtain ⟨aO, cO, rfl, hOu⟩ := hO.u32 (limbs_of_r hOL)
          have hB6 := bthen hB5 hO.2
          have hQ6 := hQ5.keep hO.2
          have hOB := OwnB.of hO (B := w.heap.size + 1) hQ5.lt
          clear mc hU5 hR5 hQ5 hO
          go_wp2_with fail
          (with_reducible refine (rnormK_c false aO cO O _ hOu).mono ?_)
          rintro e w7 ⟨rfl, hb7⟩
          unfold iv
          have hQ4 := hQ6.keep hb7
          have hB7 := bthen hB6 hb7
          have hRT := (hOB.below hb7).cut' (trim_prefix O)
          have HRT := hZ (And.intro (NumR.trim_limbs hOL) (And.intro (trim_nrm O) (HSUB.out O HOv.out)))
          generalize trimL O = T4 at *
          clear hOB hOu hQ6 HOv hOL
          go_wp2
          -- a binary digit of the quotient is set, in the world w7; the rest is T4
          have q0 := hQ4.cell (j / 16) (by have := hQl.out; have := HJ.out; omega)
          have qf := hQ4.frozen (j / 16)
          have ho := HOR.out
          obtain ⟨jq, hjq⟩ : ∃ jq, jq = j / 16 := ⟨_, rfl⟩
          obtain ⟨jm, hjm⟩ : ∃ jm, jm = j % 16 := ⟨_, rfl⟩
          have g1 : (j : Int) / 16 = (jq : Int) := by omega
          have g1' : (j : Int).tdiv 16 = (jq : Int) := by rw [Int.tdiv_eq_ediv_of_nonneg (by omega)]; exact g1
          have g2 : (j : Int) % 16 = (jm : Int) := by omega
          have g2' : (j : Int).tmod 16 = (jm : Int) := by rw [Int.tmod_eq_emod_of_nonneg (by omega)]; exact g2
          have hjm16 : jm < 16 := by omega
          have hjqz : (jq : Int) < (A.length : Int) := by have := HJ.out; omega
          have qb := hQ4.set (j / 16) (Q.getD (j / 16) 0 + 2 ^ (j % 16))
          have ql := NumR.limbs_set hQL (k := j / 16) ho.2
          rw [← hjq] at q0 qf
          rw [← hjq, ← hjm] at qb ho
          have hpw : 2 ^ jm < 65536 := Nat.lt_of_lt_of_le (Nat.pow_lt_pow_right (by omega) hjm16) (by decide)
          have hvv := HMORE.out
          rw [← hjq, ← hjm] at hvv ql
          have hoB := NumR.limb_get hQL jq
          generalize Q.getD jq 0 = od at *
          obtain ⟨pw, hpw2⟩ : ∃ pw, pw = 2 ^ jm := ⟨_, rfl⟩
          have g3 : (2 : Int) ^ jm = (pw : Int) := by rw [hpw2, Int.natCast_pow]; rfl
          rw [← hpw2] at qb ho hpw hvv ql
          have g4 : bits .or .u32 (od : Int) (pw : Int) = ((od + pw : Nat) : Int) := by rw [u32_or_nat _ _ (by unfold NumR.BB at hoB; omega) (by omega), ho.1]
          have g5 : (pw : Int) % 4294967296 = (pw : Int) := by omega
          have g6 : IntKind.u32.wrap (1 * 2 ^ jm) = (pw : Int) := by rw [Int.one_mul, g3]; exact w32 (by unfold BB; omega)
          generalize od + pw = nd at *
          have HQL2 := hZ ql
          have HVV := hZ hvv
          clear ql hvv
          have HJQ := hZ (And.intro hjq (And.intro hjm hpw2))
          clear hjq hjm hpw2 ho hoB HOR HMORE
          go_region
          have HSQ := hZ (show ∃ q, NumR.val (Q.set jq nd) = q * 2 ^ j ∧ NumR.val A / 2 ^ j = q * NumR.val B + NumR.val T4 by
           obtain ⟨q, h1, q', h2, h3⟩ := HSTEP.out
           exact ⟨q', by rw [HVV.out]; exact h2, by rw [h3, HRT.out.2.2]⟩)
          have hRf := hRT.far (p := ⟨w.heap.size, jq, none⟩) (Nat.lt_succ_self _) (.int .u32 (nd : Int))
          have hBf := bset hB7 (p := ⟨w.heap.size, jq, none⟩) (Nat.le_refl _) (.int .u32 (nd : Int))
          clear q0 qf
          go_wp2
          exact ⟨⟨j, Q.set jq nd, T4, by omega, rfl, qb, hRf, hZ (by simpa using hQl.out), HQL2.out, HRT.out.1, hZ HRT.out.2.1, HSQ, hZ (by rw [HRT.out.2.2]; exact HLT.out), hBf.drew⟩, by simp [intOf] <;> omega⟩
        · have hnl : NumR.val (T ++ [1]) < NumR.val B := by omega
          have hz : ¬ (0 : Int) ≤ cmpN (NumR.val (T ++ [1])) (NumR.val B) := by have := (cmpN_neg (x := NumR.val (T ++ [1])) (y := NumR.val B)); rw [decide_eq_true hnl] at this; have := of_decide_eq_true this; omega
          have HLT := hZ (show NumR.val (T ++ [1]) < NumR.val B by omega)
          have HEQ := hZ (show ∃ q, NumR.val Q = q * 2 ^ j ∧ NumR.val A / 2 ^ j = q * NumR.val B + NumR.val (T ++ [1]) by
           obtain ⟨q, h1, h2⟩ := hV.out
           obtain ⟨h3, h4⟩ := NumR.bit_take h2 HBIT.out h1
           exact ⟨2 * q, h4, by rw [h3, HV3.out]⟩)
          generalize cmpN (NumR.val (T ++ [1])) (NumR.val B) = z at *
          clear hge
          go_wp2_with fail
          (with_reducible refine (zc _ hU3 (hb.keep hBw)).mono ?_)
          rintro e w5 ⟨rfl, hb5⟩
          have hR5 := hR3.below hb5
          have hQ5 := hQ3.keep hb5
          have hB5 := bthen hBw hb5
          clear zc hR3 hQ3 hU3
          go_wp2
          exact ⟨⟨j, Q, T ++ [1], by omega, rfl, hQ5, hR5, hQl, hQL, hR3L, HN3, HEQ, HLT, hB5⟩, by simp [intOf] <;> omega⟩
end
section
open Num
theorem rdivide_c (a b : Option Addr) (ca cb : Nat) (A B : List Nat) (w : World) (ha : U32 w a ca A) (hb : U32 w b cb B) (hA : NumR.Limbs A) (hB : NumR.Limbs B) (hAn : Nrm A) (hBn : Nrm B) (hD0 : 0 < NumR.val B) (h1 : A.length ≤ 1073741826) (h2 : B.length ≤ 1073741826) :
 Calls Tryz.prog 116 #[.slice a A.length ca, .slice b B.length cb] w fun e w' => (∃ u v, e = .returned (.tuple #[u, v]) ∧ NewN w' u (NumR.val A / NumR.val B) ∧ NewN w' v (NumR.val A % NumR.val B)) ∧ Below w.heap.size w w' := by
 by_cases h : B.length = 1
 · obtain ⟨c, rfl⟩ := List.length_eq_one_iff.1 h
   have e : NumR.val [c] = c := by simp [NumR.val]
   rw [e] at *
   exact rdiv1_c a b ca cb A c w ha hb hA (hB c (by simp)) hD0 (by omega)
 · exact rdivL_c a b ca cb A B w ha hb hA hB hAn hBn h hD0 h1 h2

end
section
open Num
def I64 (x : Int) : Prop := -9223372036854775808 ≤ x ∧ x ≤ 9223372036854775807
def RowI (w : World) (v : Value) (l : List Int) : Prop := ∃ a c, v = .slice a l.length c ∧ ∀ k, k < l.length → ∃ b off, a = some ⟨b, off, none⟩ ∧ w.cell? ⟨b, off + k, none⟩ = some (.int .i64 (l.getD k 0)) ∧ I64 (l.getD k 0)
theorem RowI.keep {w w' : World} {v : Value} {l : List Int} (h : RowI w v l) (hb : Below w.heap.size w w') : RowI w' v l := by
 obtain ⟨a, c, h1, h2⟩ := h
 exact ⟨a, c, h1, fun k hk => by obtain ⟨b, off, h3, h4, h5⟩ := h2 k hk; exact ⟨b, off, h3, bkeep hb h4, h5⟩⟩
theorem take_getD {α : Type} {l : List α} {k : Nat} (d : α) (h : k < l.length) : l.take (k + 1) = l.take k ++ [l.getD k d] := by
 rw [List.take_succ_eq_append_getElem h]; simp [h]
theorem OwnF.congr' {R : World → Value → Int → Prop} {E : TypeId} {w0 wr : World} {v : Value} {n : Nat} {f f' : Nat → Int} (h : OwnF R E w0 wr v n f) (he : ∀ k, k < n → f k = f' k) : OwnF R E w0 wr v n f' := by
 obtain ⟨xs, h1, h2⟩ := h
 exact ⟨xs, h1, fun k hk => by rw [← he k hk]; exact h2 k hk⟩
theorem snoc_fun (l : List Int) (j : Nat) (hj : j < l.length) : ∀ k, k < j + 1 → (fun i => if i = j then l.getD j 0 else l.getD i 0) k = l.getD k 0 := by
 intro k hk; dsimp only; split
 · subst_vars; rfl
 · rfl
end
section
open Num
attribute [local go_sem ↓] Go.wp_at_zero Go.wp_at_succ
theorem typ_fresh {w : World} {c : Array Value} {t : TypeId} {q : Nat} (h : q = w.heap.size) : typOf (w.alloc (.cells c t)) q = some t := by
 subst h; unfold typOf; rw [(MapKept.heap_alloc w _).1]
end
section
open Num
theorem pow_limbs (q m : Nat) (hm : m < 16) : NumR.Limbs ((List.replicate (q + 1) 0).set q (2 ^ m)) ∧ NumR.val ((List.replicate (q + 1) 0).set q (2 ^ m)) = 2 ^ (16 * q + m) := by
 have h2 : 2 ^ m < 65536 := Nat.lt_of_lt_of_le (Nat.pow_lt_pow_right (by omega) hm) (by decide)
 have e : (List.replicate (q + 1) 0).set q (2 ^ m) = List.replicate q 0 ++ [2 ^ m] := by
  rw [List.replicate_succ', List.set_append_right _ _ (by simp)]
  simp
 rw [e]
 refine ⟨fun x hx => ?_, ?_⟩
 · simp only [List.mem_append, List.mem_replicate, List.mem_singleton] at hx
   rcases hx with ⟨_, rfl⟩ | rfl
   · exact NumR.BB_pos
   · exact h2
 · rw [NumR.val_append, NumR.val_zeros]
   simp only [NumR.val, List.length_replicate, Nat.mul_zero, Nat.add_zero, Nat.zero_add]
   rw [Nat.pow_add, Nat.pow_mul]
   rfl
theorem rpower_c (n : Nat) (w : World) (hn : n ≤ 1048576) :
 Calls Tryz.prog 255 #[.int .i64 (n : Int)] w fun e w' => (∃ v, e = .returned v ∧ IsRef w' v (2 ^ n)) ∧ Below w.heap.size w w' := by
 obtain ⟨q, hq⟩ : ∃ q, q = n / 16 := ⟨_, rfl⟩
 obtain ⟨m, hm⟩ : ∃ m, m = n % 16 := ⟨_, rfl⟩
 have hnn : n = 16 * q + m := by omega
 have e1 : (n : Int) / 16 = (q : Int) := by omega
 have e1' : (n : Int).tdiv 16 = (q : Int) := by rw [Int.tdiv_eq_ediv_of_nonneg (by omega)]; exact e1
 have e2 : (n : Int) % 16 = (m : Int) := by omega
 have e2' : (n : Int).tmod 16 = (m : Int) := by rw [Int.tmod_eq_emod_of_nonneg (by omega)]; exact e2
 have hm16 : m < 16 := by omega
 have hqk : q ≤ 65536 := by omega
 have HP := hZ (pow_limbs q m hm16)
 have HN := hZ (show (2 : Int) ^ n = sg false (NumR.val ((List.replicate (q + 1) 0).set q (2 ^ m))) by rw [(pow_limbs q m hm16).2, ← hnn]; simp [sg])
 have hmk := mk32 (q + 1) (by omega)
 have ec : ((q + 1 : Nat) : Int) = (q : Int) + 1 := by omega
 rw [ec] at hmk
 have h2 : 2 ^ m < 65536 := Nat.lt_of_lt_of_le (Nat.pow_lt_pow_right (by omega) hm16) (by decide)
 obtain ⟨y, hy⟩ : ∃ y, y = 2 ^ m := ⟨_, rfl⟩
 rw [← hy] at HP HN h2
 have e3 : (2 : Int) ^ m = (y : Int) := by rw [hy, Int.natCast_pow]; rfl
 have e4 : IntKind.u32.wrap (y : Int) = (y : Int) := w32 (by unfold BB; omega)
 clear hq hm hy ec hnn
 have hs : w.heap.size + 1 = (w.alloc (.cells #[.bool false, .slice none 0 0] 56)).heap.size := by rw [World.size_alloc]
 have hb : Blk ((w.alloc (.cells #[.bool false, .slice none 0 0] 56)).alloc (.cells (cel (List.replicate (q + 1) 0)).toArray 177)) (w.heap.size + 1) (List.replicate (q + 1) 0) := blk_at hs
 have c0 := hb.cell q (by simp)
 have f0 := hb.frozen q
 have hu : U32 ((w.alloc (.cells #[.bool false, .slice none 0 0] 56)).alloc (.cells ((cel (List.replicate (q + 1) 0)).set q (.int .u32 (y : Int))).toArray 177)) (some ⟨w.heap.size + 1, 0, none⟩) (q + 1) ((List.replicate (q + 1) 0).set q y) := by
  have h := (blk_at (l := (List.replicate (q + 1) 0).set q y) hs).u32 (limbs_of_r HP.out.1) (by unfold maxLen; simp; omega)
  rw [List.length_set, List.length_replicate, show cel ((List.replicate (q + 1) 0).set q y) = (cel (List.replicate (q + 1) 0)).set q (.int .u32 (y : Int)) by simp [cel, List.map_set]] at h
  exact h
 have nc := rnorm_c false _ _ _ _ hu HP.out.1
 rw [← HN.out] at nc
 rw [List.length_set, List.length_replicate] at nc
 clear hu
 clear hb hs
 go_enter Tryz.func255, Tryz.ntmps255
 go_wp2_with fail
 refine nc.mono ?_
 rintro e w1 ⟨⟨v, rfl, hi⟩, hb1⟩
 have hB := bthen (bal (bal (Below.refl w.heap.size w) _) _) hb1
 have x0 : w1.cell? ⟨w.heap.size, 0, none⟩ = some (.bool false) := bkc hb1
 have zx0 := cell_lt x0
 have x0f : w1.frozen? ⟨w.heap.size, 0, none⟩ = false := bkcf (v := .bool false) hb1
 have x1 : w1.cell? ⟨w.heap.size, 1, none⟩ = some (.slice none 0 0) := bkc hb1
 have x1f : w1.frozen? ⟨w.heap.size, 1, none⟩ = false := bkcf (v := .slice none 0 0) hb1
 have hB : Below w.heap.size w w1 := bthen bZ hb1
 have hz := hB.size
 have HI := hZ (hi.put2 x0 x1)
 obtain ⟨n1, a1, c1, l1, rfl, -⟩ := hi
 unfold iv at *
 clear nc c0 f0
 go_wp2
 refine bodyPost_ret (v := .agg #[.bool n1, .slice a1 l1.length c1]) (by simp [results, Tryz.results255, go_sem, *]) rfl ⟨⟨_, rfl, HI.out _ _⟩, ?_⟩
 repeat exact bZ
end
section
open Num
theorem dm_low {n1 n2 : Bool} {A B : Nat} (hB : 0 < B) (h : n1 = false ∨ A % B = 0) : sg n1 A / sg n2 B = sg (!(n1 == n2)) (A / B) ∧ sg n1 A % sg n2 B = ((A % B : Nat) : Int) := by
 have hm : (A : Int) % (B : Int) = ((A % B : Nat) : Int) := (Int.natCast_emod A B).symm
 have hd : (A : Int) / (B : Int) = ((A / B : Nat) : Int) := (Int.natCast_ediv A B).symm
 cases n1 with
 | false =>
  cases n2 with
  | false => simp only [sg, Bool.false_eq_true, if_false, beq_self_eq_true, Bool.not_true]; exact ⟨hd, hm⟩
  | true =>
   simp only [sg, Bool.false_eq_true, if_false, if_true, show (!(false == true)) = true from rfl]
   rw [Int.ediv_neg, Int.emod_neg]
   exact ⟨by rw [hd], hm⟩
 | true =>
  have h0 : A % B = 0 := by simpa using h
  have hdv : (B : Int) ∣ (A : Int) := Int.natCast_dvd_natCast.2 (Nat.dvd_of_mod_eq_zero h0)
  have hz : (-(A : Int)) % (B : Int) = 0 := Int.emod_eq_zero_of_dvd (Int.dvd_neg.2 hdv)
  have hq : (-(A : Int)) / (B : Int) = -((A / B : Nat) : Int) := by rw [Int.neg_ediv_of_dvd hdv, hd]
  rw [h0]
  cases n2 with
  | false =>
   simp only [sg, Bool.false_eq_true, if_false, if_true, show (!(true == false)) = true from rfl]
   exact ⟨hq, hz⟩
  | true =>
   simp only [sg, Bool.false_eq_true, if_false, if_true, show (!(true == true)) = false from rfl]
   rw [Int.ediv_neg, Int.emod_neg]
   exact ⟨by rw [hq, Int.neg_neg], hz⟩
theorem dm_high {n2 : Bool} {A B : Nat} (hB : 0 < B) (h : 0 < A % B) : sg true A / sg n2 B = sg (!(true == n2)) (A / B) - (sg n2 B).sign ∧ sg true A % sg n2 B = sg true (A % B) + ((sg n2 B).natAbs : Int) := by
 have e := Nat.div_add_mod A B
 have hl := Nat.mod_lt A hB
 have hs : (B : Int).sign = 1 := Int.sign_eq_one_of_pos (by omega)
 have key : (-(A : Int)) / (B : Int) = -((A / B : Nat) : Int) - 1 ∧ (-(A : Int)) % (B : Int) = (B : Int) - ((A % B : Nat) : Int) := by
  have e2 : -(A : Int) = ((B : Int) - ((A % B : Nat) : Int)) + (B : Int) * (-((A / B : Nat) : Int) - 1) := by
   have : (A : Int) = (B : Int) * ((A / B : Nat) : Int) + ((A % B : Nat) : Int) := by rw [← Int.natCast_mul, ← Int.natCast_add, e]
   rw [Int.mul_sub, Int.mul_neg]; omega
  constructor
  · rw [e2, Int.add_mul_ediv_left _ _ (by omega), Int.ediv_eq_zero_of_lt (by omega) (by omega)]; omega
  · rw [e2, Int.add_mul_emod_self_left, Int.emod_eq_of_lt (by omega) (by omega)]
 cases n2 with
 | false => simp only [sg, if_true, if_false, Bool.false_eq_true]; rw [key.1, key.2]; simp [hs]; omega
 | true => simp only [sg, if_true]; rw [Int.ediv_neg, Int.emod_neg, key.1, key.2]; simp [hs]; omega
theorem ref_of {w : World} {a : Option Addr} {c : Nat} {l : List Nat} {b s : Bool} (hu : U32 w a c l) (hl : NumR.Limbs l) (hn : Nrm l) (hb : b = (s && decide (0 < l.length))) : IsRef w (.agg #[.bool b, .slice a l.length c]) (sg s (NumR.val l)) := by
 refine ⟨b, a, c, l, rfl, hu, hl, hn, ?_, ?_⟩
 · intro h
   rw [hb] at h
   simp at h
   intro e
   rw [e] at h
   simp at h
 · cases l with
   | nil => cases s <;> cases b <;> simp [sg, NumR.val]
   | cons x t => simp at hb; rw [hb]
end
end Go.Proofs.YtbmaffijncapiaaGreatDoor
