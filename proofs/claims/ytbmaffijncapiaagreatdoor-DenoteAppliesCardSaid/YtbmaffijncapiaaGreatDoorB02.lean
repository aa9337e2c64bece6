/- Texts of this seat, laid together: IntB, IntC, IntD, IntE, App, IntF, RefA, RefB, RefC, Lims, PrgA, GrT. What each theorem proves, and under which conditions, its statement says. -/
import Derived.Test.YtbmaffijncapiaaGreatDoorB01
import Derived.Laws.AppendOwn
import Derived.Deep.AppendLies
import Derived.StillTail
import Derived.Deep.Quiet
set_option maxRecDepth 100000
set_option maxHeartbeats 32000000
set_option linter.unusedVariables false
set_option linter.unusedSimpArgs false
namespace Go.Proofs.YtbmaffijncapiaaGreatDoor
open Go.ChangeShapes Go.WideShapes Go.ChangeAt Go.RowKit
section
open Num

theorem make_c (neg : Bool) (a : Option Addr) (ca : Nat) (l : List Nat) (w : World) (ha : U32 w a ca l) (h1 : l.length ≤ 1099511627776) :
 Calls Tryz.prog 131 #[.bool neg, .slice a l.length ca] w fun e w' => (∃ v, e = .returned v ∧ IsInt w' v (sg neg (val l))) ∧ Below w.heap.size w w' := by
 have nc := fun w h => limbNorm_c a ca l w h h1
 have mc := fun a1 ca1 w h => made_c neg a1 ca1 (trimL l) w h (trim_nrm l)
 rw [val_trim] at mc
 generalize trimL l = L at *
 go_enter Tryz.func131, Tryz.ntmps131
 go_wp2_with fail
 refine (nc _ (ha.keep (bal (Below.refl _ _) _))).mono ?_
 rintro e w1 ⟨⟨a1, rfl, hu⟩, hb1⟩
 have r0 : w1.cell? ⟨w.heap.size, 0, none⟩ = some (.bool false) := bkc hb1
 have zr0 := cell_lt r0
 have r0f : w1.frozen? ⟨w.heap.size, 0, none⟩ = false := bkcf (v := .bool false) hb1
 have r1 : w1.cell? ⟨w.heap.size, 1, none⟩ = some (.slice none 0 0) := bkc hb1
 have r1f : w1.frozen? ⟨w.heap.size, 1, none⟩ = false := bkcf (v := .slice none 0 0) hb1
 have hB : Below w.heap.size w w1 := bthen bZ hb1
 have hz := hB.size
 clear nc
 go_wp2_with fail
 refine (mc _ _ _ hu).mono ?_
 rintro e w2 ⟨⟨v, rfl, hi⟩, hb2⟩
 have r0 : w2.cell? ⟨w.heap.size, 0, none⟩ = some (.bool false) := bkc hb2
 have zr0 := cell_lt r0
 have r0f : w2.frozen? ⟨w.heap.size, 0, none⟩ = false := bkcf (v := .bool false) hb2
 have r1 : w2.cell? ⟨w.heap.size, 1, none⟩ = some (.slice none 0 0) := bkc hb2
 have r1f : w2.frozen? ⟨w.heap.size, 1, none⟩ = false := bkcf (v := .slice none 0 0) hb2
 have hB : Below w.heap.size w w2 := bthen bZ hb2
 have hz := hB.size
 have HI := hZ hi
 have HI2 := hZ (hi.put2 r0 r1)
 obtain ⟨n2, a2, c2, l2, rfl, _, _, _, _⟩ := hi
 clear mc
 unfold iv at *
 go_wp2
 refine bodyPost_ret (v := .agg #[.bool n2, .slice a2 l2.length c2]) (by simp [results, Tryz.results131, go_sem, *]) rfl ⟨⟨_, rfl, HI2.out _ _⟩, ?_⟩
 repeat exact bZ

theorem u32_pair (w : World) (x y : Nat) (hx : x < BB) (hy : y < BB) (g : Nat) (hg : g = w.heap.size) : U32 (w.alloc (.cells #[.int .u32 (x : Int), .int .u32 (y : Int)] 177)) (some ⟨g, 0, none⟩) 2 [x, y] := by
 refine ⟨by simp, by unfold maxLen; omega, ?_, .inr ⟨g, 0, rfl, ?_, by subst hg; unfold typOf; rw [(MapKept.heap_alloc w _).1]⟩⟩
 · intro z hz; simp at hz; rcases hz with rfl | rfl <;> assumption
 · intro k hk
   rw [Nat.zero_add]
   match k, hk with
   | 0, _ => exact cell_new hg rfl
   | 1, _ => exact cell_new hg rfl
theorem val_pair (m : Nat) : val [m % BB, m / BB] = m := by
 simp only [val, Nat.mul_zero, Nat.add_zero]
 have := Nat.div_add_mod m BB
 omega

theorem of_c (n : Int) (w : World) (h1 : -9223372036854775808 ≤ n) (h2 : n ≤ 9223372036854775807) :
 Calls Tryz.prog 45 #[.int .i64 n] w fun e w' => (∃ v, e = .returned v ∧ IsInt w' v n) ∧ Below w.heap.size w w' := by
 obtain ⟨m, hm⟩ : ∃ m : Nat, m = n.natAbs := ⟨_, rfl⟩
 have hmB : m / BB < BB := by unfold BB; omega
 have mk := fun neg a w ha => make_c neg a 2 [m % BB, m / BB] w ha (by simp)
 rw [val_pair] at mk
 have up := fun w => u32_pair w (m % BB) (m / BB) (Nat.mod_lt _ BB_pos) hmB
 have i1 : (m : Int) % 4294967296 = ((m % BB : Nat) : Int) := by unfold BB; omega
 have i2 : (m : Int) / 4294967296 = ((m / BB : Nat) : Int) := by unfold BB; omega
 have i3 : ((m / BB : Nat) : Int) % 4294967296 = ((m / BB : Nat) : Int) := by unfold BB at *; omega
 generalize m % BB = x at *
 generalize m / BB = y at *
 by_cases h0 : n < 0
 · have e1 : IntKind.u64.wrap (-IntKind.u64.wrap n) = (m : Int) := by
    simp only [IntKind.wrap, IntKind.bits, IntKind.signed]
    simp
    omega
   have HS := hZ (show sg true m = n by simp [sg]; omega)
   clear hm
   go_enter Tryz.func45, Tryz.ntmps45
   go_wp2_with fail
   refine (mk _ _ _ (up _ _ (by simp))).mono ?_
   rintro e w1 ⟨⟨v, rfl, hi⟩, hb1⟩
   have r0 : w1.cell? ⟨w.heap.size, 0, none⟩ = some (.bool false) := bkc hb1
   have zr0 := cell_lt r0
   have r0f : w1.frozen? ⟨w.heap.size, 0, none⟩ = false := bkcf (v := .bool false) hb1
   have r1 : w1.cell? ⟨w.heap.size, 1, none⟩ = some (.slice none 0 0) := bkc hb1
   have r1f : w1.frozen? ⟨w.heap.size, 1, none⟩ = false := bkcf (v := .slice none 0 0) hb1
   have hB : Below w.heap.size w w1 := bthen bZ hb1
   have hz := hB.size
   rw [HS.out] at hi
   have HI := hZ hi
   have HI2 := hZ (hi.put2 r0 r1)
   obtain ⟨n2, a2, c2, l2, rfl, _, _, _, _⟩ := hi
   clear mk up
   unfold iv at *
   go_wp2
   refine bodyPost_ret (v := .agg #[.bool n2, .slice a2 l2.length c2]) (by simp [results, Tryz.results45, go_sem, *]) rfl ⟨⟨_, rfl, HI2.out _ _⟩, ?_⟩
   repeat exact bZ
 · obtain rfl : n = m := by omega
   have HS := hZ (show sg false m = m by simp [sg])
   clear hm
   go_enter Tryz.func45, Tryz.ntmps45
   go_wp2_with fail
   refine (mk _ _ _ (up _ _ (by simp))).mono ?_
   rintro e w1 ⟨⟨v, rfl, hi⟩, hb1⟩
   have r0 : w1.cell? ⟨w.heap.size, 0, none⟩ = some (.bool false) := bkc hb1
   have zr0 := cell_lt r0
   have r0f : w1.frozen? ⟨w.heap.size, 0, none⟩ = false := bkcf (v := .bool false) hb1
   have r1 : w1.cell? ⟨w.heap.size, 1, none⟩ = some (.slice none 0 0) := bkc hb1
   have r1f : w1.frozen? ⟨w.heap.size, 1, none⟩ = false := bkcf (v := .slice none 0 0) hb1
   have hB : Below w.heap.size w w1 := bthen bZ hb1
   have hz := hB.size
   rw [HS.out] at hi
   have HI := hZ hi
   have HI2 := hZ (hi.put2 r0 r1)
   obtain ⟨n2, a2, c2, l2, rfl, _, _, _, _⟩ := hi
   clear mk up
   unfold iv at *
   go_wp2
   refine bodyPost_ret (v := .agg #[.bool n2, .slice a2 l2.length c2]) (by simp [results, Tryz.results45, go_sem, *]) rfl ⟨⟨_, rfl, HI2.out _ _⟩, ?_⟩
   repeat exact bZ
end
section
open Num

theorem sg_bd {neg : Bool} {n k : Nat} (h : Bd k (sg neg n)) : n < 2 ^ k := by
 unfold Bd at h; rwa [sg_abs] at h

theorem mul_c (vx vy : Value) (x y : Int) (k m : Nat) (w : World) (hx : IsInt w vx x) (hy : IsInt w vy y) (bx : Bd k x) (by' : Bd m y) (hk : k ≤ 17179869184) (hm : m ≤ 17179869184) :
 Calls Tryz.prog 51 #[vx, vy] w fun e w' => (∃ v, e = .returned v ∧ IsInt w' v (x * y)) ∧ Below w.heap.size w w' := by
 obtain ⟨n1, a1, c1, l1, rfl, u1, g1, s1, rfl⟩ := hx
 obtain ⟨n2, a2, c2, l2, rfl, u2, g2, s2, rfl⟩ := hy
 have k1 := bd_len g1 (sg_bd bx) hk
 have k2 := bd_len g2 (sg_bd by') hm
 have mc := fun w h1 h2 => limbMul_c a1 a2 c1 c2 l1 l2 w h1 h2 (by omega) (by omega)
 have dc := fun a L w h hn => made_c (n1 != n2) a (List.length L) L w h hn
 rw [← sg_mul]
 clear bx by' g1 g2 s1 s2 k1 k2
 unfold iv
 have hB0 := Below.refl w.heap.size w
 go_enter Tryz.func51, Tryz.ntmps51
 go_wp2_with fail
 go_region_held3 (fun w' => w'.cell? ⟨w.heap.size, 0, none⟩ = some (.bool n1) ∧ w'.cell? ⟨w.heap.size, 1, none⟩ = some (.slice a1 l1.length c1) ∧ w'.cell? ⟨w.heap.size + 1, 0, none⟩ = some (.bool n2) ∧ w'.cell? ⟨w.heap.size + 1, 1, none⟩ = some (.slice a2 l2.length c2)) (repeat' (first | assumption | apply And.intro | exact cell_new (by simp) rfl | refine cell_alloc ?_ _ | refine cell_drew ?_ | refine cell_far ?_ (addr_ne (by omega)) _))
  (first | (go_at_call 140; refine (mc _ (u1.keep bZ) (u2.keep bZ)).mono ?_; rintro e w3 ⟨⟨a3, k3, L, rfl, rfl, hu, hn, hv⟩, hb3⟩; have x0 : w3.cell? ⟨w.heap.size, 0, none⟩ = some (.bool n1) := bkc hb3; have zx0 := cell_lt x0; have x1 : w3.cell? ⟨w.heap.size, 1, none⟩ = some (.slice a1 l1.length c1) := bkc hb3; have y0 : w3.cell? ⟨w.heap.size + 1, 0, none⟩ = some (.bool n2) := bkc hb3; have zy0 := cell_lt y0; have y1 : w3.cell? ⟨w.heap.size + 1, 1, none⟩ = some (.slice a2 l2.length c2) := bkc hb3; have r0 : w3.cell? ⟨w.heap.size + 2, 0, none⟩ = some (.bool false) := bkc hb3; have zr0 := cell_lt r0; have r0f : w3.frozen? ⟨w.heap.size + 2, 0, none⟩ = false := bkcf (v := .bool false) hb3; have r1 : w3.cell? ⟨w.heap.size + 2, 1, none⟩ = some (.slice none 0 0) := bkc hb3; have r1f : w3.frozen? ⟨w.heap.size + 2, 1, none⟩ = false := bkcf (v := .slice none 0 0) hb3; have hB : Below w.heap.size w w3 := bthen bZ hb3; have hz : w.heap.size ≤ w3.heap.size := hB.size) | (go_at_call 122; refine (dc _ _ _ hu hn).mono ?_; rintro e w4 ⟨⟨v, rfl, hi⟩, hb4⟩; have x0 : w4.cell? ⟨w.heap.size, 0, none⟩ = some (.bool n1) := bkc hb4; have zx0 := cell_lt x0; have x1 : w4.cell? ⟨w.heap.size, 1, none⟩ = some (.slice a1 l1.length c1) := bkc hb4; have y0 : w4.cell? ⟨w.heap.size + 1, 0, none⟩ = some (.bool n2) := bkc hb4; have zy0 := cell_lt y0; have y1 : w4.cell? ⟨w.heap.size + 1, 1, none⟩ = some (.slice a2 l2.length c2) := bkc hb4; have r0 : w4.cell? ⟨w.heap.size + 2, 0, none⟩ = some (.bool false) := bkc hb4; have zr0 := cell_lt r0; have r0f : w4.frozen? ⟨w.heap.size + 2, 0, none⟩ = false := bkcf (v := .bool false) hb4; have r1 : w4.cell? ⟨w.heap.size + 2, 1, none⟩ = some (.slice none 0 0) := bkc hb4; have r1f : w4.frozen? ⟨w.heap.size + 2, 1, none⟩ = false := bkcf (v := .slice none 0 0) hb4; have hB : Below w.heap.size w w4 := bthen bZ hb4; have hz : w.heap.size ≤ w4.heap.size := hB.size; rw [hv] at hi; have HI := hZ hi; have HI2 := hZ (hi.put2 r0 r1); obtain ⟨n4, a4, c4, l4, rfl, _, _, _, _⟩ := hi; unfold iv at *))
 go_wp2
 refine bodyPost_ret (v := .agg #[.bool n4, .slice a4 l4.length c4]) (by simp [results, Tryz.results51, go_sem, *]) rfl ⟨⟨_, rfl, HI2.out _ _⟩, ?_⟩
 repeat exact bZ
end
section
open Num

theorem sg_sign {neg : Bool} {l : List Nat} (hn : Nrm l) (hs : neg = true → l ≠ []) : (sg neg (val l)).sign = if l.length = 0 then 0 else if neg then -1 else 1 := by
 by_cases h0 : l = []
 · subst h0; cases neg <;> simp [sg, val]
 · have h1 : 0 < val l := Nat.pos_of_ne_zero (fun e => h0 ((val_nil_iff hn).1 e))
   have h2 : l.length ≠ 0 := by simpa using h0
   rw [if_neg h2]
   cases neg with
   | true => simp only [sg, if_true]; rw [Int.sign_neg, Int.sign_eq_one_of_pos (by omega)]
   | false => simp only [sg]; exact Int.sign_eq_one_of_pos (by simp; omega)

theorem sign_c (vx : Value) (x : Int) (w : World) (hx : IsInt w vx x) :
 Calls Tryz.prog 25 #[vx] w fun e w' => e = .returned (.int .i64 x.sign) ∧ Below w.heap.size w w' := by
 obtain ⟨n1, a1, c1, l1, rfl, u1, g1, s1, rfl⟩ := hx
 have HS := hZ (sg_sign g1 s1)
 generalize (sg n1 (val l1)).sign = z at *
 clear g1 s1 u1
 unfold iv
 generalize hk : l1.length = k at *
 clear hk
 have hB0 := Below.refl w.heap.size w
 cases k with
 | zero =>
  go_enter Tryz.func25, Tryz.ntmps25
  go_wp2
  go_ret
  refine ⟨by rw [HS.out]; rfl, ?_⟩
  repeat exact bZ
 | succ k =>
  cases n1 with
  | true =>
   go_enter Tryz.func25, Tryz.ntmps25
   go_wp2
   go_ret
   refine ⟨by rw [HS.out]; rfl, ?_⟩
   repeat exact bZ
  | false =>
   go_enter Tryz.func25, Tryz.ntmps25
   go_wp2
   go_ret
   refine ⟨by rw [HS.out]; rfl, ?_⟩
   repeat exact bZ
end
end Go.Proofs.YtbmaffijncapiaaGreatDoor
namespace Go.Proofs.YtbmaffijncapiaaGreatDoor
open Num
open Go.ChangeShapes Go.WideShapes Go.ChangeAt Go.RowKit
namespace Num
def cmpI (x y : Int) : Int := if x < y then -1 else if x = y then 0 else 1
theorem cmpI_nn (m n : Nat) : cmpI (sg true m) (sg true n) = cmpN n m := by
 simp only [cmpI, cmpN, sg, if_true]
 (repeat' split) <;> first | rfl | omega
theorem cmpI_pp (m n : Nat) : cmpI (sg false m) (sg false n) = cmpN m n := by
 have e : ∀ k : Nat, sg false k = (k : Int) := fun _ => rfl
 rw [e, e]
 unfold cmpI cmpN
 (repeat' split) <;> first | rfl | omega
end Num

end Go.Proofs.YtbmaffijncapiaaGreatDoor
namespace Go.Proofs.YtbmaffijncapiaaGreatDoor
open Go.ChangeShapes Go.WideShapes Go.ChangeAt Go.RowKit
section
open Num
structure Elt (P : Program) (T E : TypeId) (size bytes : Nat) : Prop where
 ht : P.underlying T = some (.slice E)
 info : ∃ i z, P.info? E = some i ∧ i.zero = some z ∧ i.size = size ∧ i.bytes = bytes ∧ z.cells.size = size
 pos : 0 < size
 small : bytes ≤ 128
theorem Elt.mk' {P : Program} {T E : TypeId} {size bytes : Nat} {z : Value} (ht : P.underlying T = some (.slice E)) (hi : (P.info? E).map (fun i => (i.zero, i.size, i.bytes)) = some (some z, size, bytes)) (hz : z.cells.size = size) (h1 : 0 < size) (h2 : bytes ≤ 128) : Elt P T E size bytes := by
 obtain ⟨i, h3, h4, h5, h6⟩ := info_parts hi
 exact ⟨ht, ⟨i, z, h3, h4, h5, h6, hz⟩, h1, h2⟩
def OwnE (E : TypeId) (size : Nat) (w0 wr : World) (v : Value) (n : Nat) (xs : List Value) : Prop := wr.ownsRow w0.heap.size E size v n xs ∧ Below w0.heap.size w0 wr
theorem OwnE.below {E : TypeId} {size n : Nat} {w0 wr w' : World} {v : Value} {xs : List Value} (h : OwnE E size w0 wr v n xs) (hb : Below wr.heap.size wr w') : OwnE E size w0 w' v n xs :=
 ⟨own_below (w0 := w0) h.1 hb, bthen h.2 hb⟩
theorem OwnE.nil (E : TypeId) (size : Nat) {w0 wr : World} (hb : Below w0.heap.size w0 wr) : OwnE E size w0 wr (.slice none 0 0) 0 [] := ⟨World.ownsRow_nil _ _ _ _, hb⟩
theorem OwnE.ex {E : TypeId} {size n : Nat} {w0 wr : World} {v : Value} {xs : List Value} (h : OwnE E size w0 wr v n xs) : ∃ a c, v = .slice a n c := by
 rcases h.1.2 with ⟨rfl, rfl⟩ | ⟨g, c, _, rfl, _⟩
 · exact ⟨_, _, rfl⟩
 · exact ⟨_, _, rfl⟩
theorem app_lit {P : Program} {T E : TypeId} {size bytes : Nat} {ops : Array Oper} {rest : List Oper} {o : Oper} {a : Act} {Q : Exit → Act → World → Prop} {w0 wr : World} {v : Value} {n : Nat} {xs C : List Value} {t : TypeId} (el : Elt P T E size bytes) (hgd : o.guard = none) {s x : Operand}
 (ho : o.op = .call { callee := .builtin .append, args := #[s, x], argTypes := #[T, T] }) (hO : OwnE E size w0 wr v n xs) (hs : a.eval s = v)
 {m c : Nat} (hx : a.eval x = .slice (some ⟨wr.heap.size, 0, none⟩) m c) (hl : C.length = m * size) (h1 : ∀ u ∈ C, u.oneCell' = true) (hn : n + m ≤ 1099511627776)
 (h : ∀ v' w', OwnE E size w0 w' v' (n + m) (xs ++ C) → wpList P ops Q rest (a.put o.dst v') w') : wpList P ops Q (o :: rest) a (wr.alloc (.cells C.toArray t)) := by
 obtain ⟨i, z, hi, hz, hsize, hby, hzs⟩ := el.info
 have hb : (n + m) * bytes ≤ 1099511627776 * 128 := Nat.mul_le_mul hn el.small
 refine wpList_append_own _ hgd s x T ho w0.heap.size E i z size bytes el.ht hi hz hsize hby hzs el.pos v n xs hs (hO.1.alloc _) ⟨wr.heap.size, 0, none⟩ m c C hx hl (cells_new wr C t) h1 (by unfold maxLen; omega) (by omega) (by have := hO.2.size; simp; omega) ?_
 intro v' w' hown hg _
 exact h v' w' ⟨hown, below_append (wr := wr) (bal hO.2 _) (hO.1.alloc _) hg⟩
theorem el32 : Elt Tryz.prog 48 177 1 4 := Elt.mk' Tryz.underlying48 info32 rfl (by decide) (by decide)
def Own32 (w0 wr : World) (v : Value) (L : List Nat) : Prop := OwnE 177 1 w0 wr v L.length (cel L)
theorem Own32.below {w0 wr w' : World} {v : Value} {L : List Nat} (h : Own32 w0 wr v L) (hb : Below wr.heap.size wr w') : Own32 w0 w' v L := OwnE.below h hb
theorem Own32.nil {w0 wr : World} (hb : Below w0.heap.size w0 wr) : Own32 w0 wr (.slice none 0 0) [] := OwnE.nil _ _ hb
theorem own_u32 {w : World} {base : Nat} {v : Value} {n : Nat} {L : List Nat} (h : w.ownsRow base 177 1 v n (cel L)) (hL : Limbs L) : ∃ a c, v = .slice a L.length c ∧ U32 w a c L := by
 obtain ⟨hl, h⟩ := h
 rw [cel_len, Nat.mul_one] at hl
 subst hl
 rcases h with ⟨rfl, h0⟩ | ⟨g, cap, cur, rfl, hg, hh, hn, hc, hs, ht⟩
 · have : L = [] := List.length_eq_zero_iff.1 h0
   subst this
   exact ⟨none, 0, rfl, Nat.le_refl _, by unfold maxLen; omega, hL, .inl rfl⟩
 · refine ⟨_, cap, rfl, hn, hc, hL, .inr ⟨g, 0, rfl, fun k hk => ?_, by unfold typOf; rw [hh]⟩⟩
   rw [Nat.mul_one] at ht
   have e : cur[k]? = some (.int .u32 (L.getD k 0 : Nat)) := by
    have := cel_get L k hk
    rw [← ht, List.getElem?_take, if_pos hk] at this
    simpa using this
   unfold World.cell?
   rw [Nat.zero_add, show w.heap[(⟨g, k, none⟩ : Addr).block]? = _ from hh]
   simpa using e
theorem Own32.u32 {w0 wr : World} {v : Value} {L : List Nat} (h : Own32 w0 wr v L) (hL : Limbs L) : ∃ a c, v = .slice a L.length c ∧ U32 wr a c L := own_u32 h.1 hL
theorem cel_app (l m : List Nat) : cel (l ++ m) = cel l ++ cel m := by simp [cel]
theorem app32 {ops : Array Oper} {rest : List Oper} {o : Oper} {a : Act} {Q : Exit → Act → World → Prop} {w0 wr : World} {v : Value} {L X : List Nat} {t : TypeId} (hgd : o.guard = none) {s x : Operand}
 (ho : o.op = .call { callee := .builtin .append, args := #[s, x], argTypes := #[48, 48] }) (hO : Own32 w0 wr v L) (hs : a.eval s = v)
 {c : Nat} (hx : a.eval x = .slice (some ⟨wr.heap.size, 0, none⟩) X.length c) (hn : L.length + X.length ≤ 1099511627776)
 (h : ∀ v' w', Own32 w0 w' v' (L ++ X) → wpList Tryz.prog ops Q rest (a.put o.dst v') w') : wpList Tryz.prog ops Q (o :: rest) a (wr.alloc (.cells (cel X).toArray t)) :=
 app_lit el32 hgd ho hO hs hx (by rw [cel_len, Nat.mul_one]) (cel_one X) hn fun v' w' hO' => h v' w' (by unfold Own32; rw [cel_app, List.length_append]; exact hO')
end
section
open Num

def IsRef (w : World) (v : Value) (z : Int) : Prop := ∃ neg a cap l, v = iv neg a (List.length l) cap ∧ U32 w a cap l ∧ NumR.Limbs l ∧ Nrm l ∧ (neg = true → l ≠ []) ∧ z = sg neg (NumR.val l)
theorem IsRef.keep {w w' : World} {v : Value} {z : Int} (h : IsRef w v z) (hb : Below w.heap.size w w') : IsRef w' v z := by
 obtain ⟨neg, a, cap, l, h1, h2, h3⟩ := h
 exact ⟨neg, a, cap, l, h1, h2.keep hb, h3⟩
theorem IsRef.put {w : World} {x : Value} {z : Int} {p : Addr} {v : Value} (h : IsRef w x z) (hp : w.cell? p = some v) (hv : ∀ n, v ≠ .int .u32 n) (u : Value) : IsRef (w.setCell p u) x z := by
 obtain ⟨neg, a, cap, l, h1, h2, h3⟩ := h
 exact ⟨neg, a, cap, l, h1, h2.put hp hv u, h3⟩
theorem IsRef.put2 {w : World} {x : Value} {z : Int} {g : Nat} {b : Bool} {a : Option Addr} {n c : Nat} (h : IsRef w x z) (r0 : w.cell? ⟨g, 0, none⟩ = some (.bool b)) (r1 : w.cell? ⟨g, 1, none⟩ = some (.slice a n c)) (u v : Value) : IsRef ((w.setCell ⟨g, 0, none⟩ u).setCell ⟨g, 1, none⟩ v) x z :=
 (h.put r0 (fun _ e => by cases e) u).put (cell_far r1 (by simp) u) (fun _ e => by cases e) v
theorem U32.cap {w : World} {a : Option Addr} {cap : Nat} {l m : List Nat} (h : U32 w a cap l) (hp : m <+: l) : U32 w a cap m :=
 ⟨Nat.le_trans hp.length_le h.1, h.2.1, fun x hx => h.2.2.1 x (hp.subset hx), h.2.2.2.take hp⟩

theorem rnormK_c (neg : Bool) (a : Option Addr) (ca : Nat) (l : List Nat) (w : World) (ha : U32 w a ca l) :
 Calls Tryz.prog 117 #[.bool neg, .slice a l.length ca] w fun e w' => e = .returned (iv (neg && decide (0 < (trimL l).length)) a (trimL l).length ca) ∧ Below w.heap.size w w' := by
 obtain ⟨hc, hm, hl, hcs⟩ := ha
 unfold maxLen at hm
 go_enter Tryz.func117, Tryz.ntmps117
 go_wp2
 go_loop [5] (fun x => ∃ k : Nat, k ≤ l.length ∧ x = .int .i64 k ∧ trimL (l.take k) = trimL l) (fun x => (intOf x).toNat)
 case atStart => exact ⟨l.length, Nat.le_refl _, rfl, by rw [List.take_length]⟩
 case round =>
  obtain ⟨k, hk, rfl, ht⟩ := hrel
  have HT := hZ ht
  clear ht
  cases k with
  | zero =>
   have hz : (trimL l).length = 0 := by have := HT.out; rw [List.take_zero] at this; rw [← this]; rfl
   have HZ := hZ hz
   clear hz
   cases neg with
   | true =>
    go_wp2
    refine bodyPost_ret (v := iv false a 0 ca) (by simp [iv, results, Tryz.results117, go_sem, *]) rfl ⟨by rw [HZ.out] <;> simp, ?_⟩
    repeat (first | exact Below.refl _ _ | exact Below.refl _ _ | refine Below.drew ?_ | refine below_drewN ?_ _ | refine bset ?_ (by simp <;> omega) _ | refine bal ?_ _)
   | false =>
    go_wp2
    refine bodyPost_ret (v := iv false a 0 ca) (by simp [iv, results, Tryz.results117, go_sem, *]) rfl ⟨by rw [HZ.out] <;> simp, ?_⟩
    repeat (first | exact Below.refl _ _ | exact Below.refl _ _ | refine Below.drew ?_ | refine below_drewN ?_ _ | refine bset ?_ (by simp <;> omega) _ | refine bal ?_ _)
  | succ j =>
   rcases hcs with rfl | ⟨b, off, rfl, hcell⟩
   · simp at hk
   have hj := cell_alloc (hcell j (by omega)) (.cells #[.bool false, .slice none 0 0] 56)
   by_cases h0 : l.getD j 0 = 0
   · have HN := hZ (trim_take_zero (by omega : j < l.length) h0)
     rw [h0] at hj
     go_wp2
     exact ⟨⟨j, by omega, rfl, HN.out.symm.trans HT.out⟩, by simp [intOf] <;> omega⟩
   · have HN := hZ (trim_take_pos (by omega : j < l.length) h0)
     generalize hx : l.getD j 0 = x at *
     have hx0 : ((x : Int) == 0) = false := by simp; omega
     have HL := hZ (show (trimL l).length = j + 1 by rw [← HT.out, HN.out]; simp; omega)
     cases neg with
     | true =>
      go_wp2
      refine bodyPost_ret (v := iv true (some ⟨b, off, none⟩) (j + 1) ca) (by simp [iv, results, Tryz.results117, go_sem, *]) rfl ⟨by rw [HL.out] <;> simp, ?_⟩
      repeat (first | exact Below.refl _ _ | exact Below.refl _ _ | refine Below.drew ?_ | refine below_drewN ?_ _ | refine bset ?_ (by simp <;> omega) _ | refine bal ?_ _)
     | false =>
      go_wp2
      refine bodyPost_ret (v := iv false (some ⟨b, off, none⟩) (j + 1) ca) (by simp [iv, results, Tryz.results117, go_sem, *]) rfl ⟨by rw [HL.out] <;> simp, ?_⟩
      repeat (first | exact Below.refl _ _ | exact Below.refl _ _ | refine Below.drew ?_ | refine below_drewN ?_ _ | refine bset ?_ (by simp <;> omega) _ | refine bal ?_ _)

theorem rnorm_c (neg : Bool) (a : Option Addr) (ca : Nat) (l : List Nat) (w : World) (ha : U32 w a ca l) (hr : NumR.Limbs l) :
 Calls Tryz.prog 117 #[.bool neg, .slice a l.length ca] w fun e w' => (∃ v, e = .returned v ∧ IsRef w' v (sg neg (NumR.val l))) ∧ Below w.heap.size w w' := by
 have key := rnormK_c neg a ca l w ha
 refine key.mono ?_
 rintro e w1 ⟨rfl, hB⟩
 refine ⟨⟨_, rfl, _, a, ca, trimL l, rfl, (ha.cap (trim_prefix l)).keep hB, NumR.trim_limbs hr, trim_nrm l, ?_, ?_⟩, hB⟩
 · intro h; simp at h; intro e; rw [e] at h; simp at h
 · rw [← NumR.val_trim l]
   by_cases h0 : trimL l = []
   · rw [h0]; simp [sg, NumR.val]
   · have : 0 < (trimL l).length := List.length_pos_iff.2 h0
     simp [this, sg]
end
end Go.Proofs.YtbmaffijncapiaaGreatDoor
namespace Go.Proofs.YtbmaffijncapiaaGreatDoor
open Num
open Go.ChangeShapes Go.WideShapes Go.ChangeAt Go.RowKit
namespace NumR
theorem limbs_snoc {l : List Nat} {x : Nat} (h : Limbs l) (hx : x < BB) : Limbs (l ++ [x]) := by
 intro y hy
 rcases List.mem_append.1 hy with h1 | h1
 · exact h y h1
 · rw [List.mem_singleton.1 h1]; exact hx
theorem big {l : Nat} {u m : Nat} (hm : m < 18446744073709551616) (hu : 0 < u) (h : BB ^ l * u ≤ m) : l ≤ 3 := by
 apply Nat.le_of_not_lt
 intro h4
 have h1 : BB ^ 4 ≤ BB ^ l := Nat.pow_le_pow_right BB_pos (by omega)
 have h2 : BB ^ 4 = 18446744073709551616 := by unfold BB; rfl
 have h3 : BB ^ l * 1 ≤ BB ^ l * u := Nat.mul_le_mul_left _ (by omega)
 omega
end NumR
theorem w32 {x : Nat} (h : x < BB) : IntKind.u32.wrap (x : Int) = (x : Int) := by
 unfold BB at h
 simp only [IntKind.wrap, IntKind.bits, IntKind.signed]
 simp
 omega
theorem limbs_of_r {l : List Nat} (h : NumR.Limbs l) : Limbs l := fun x hx => by have := h x hx; unfold NumR.BB at this; unfold BB; omega

theorem rof_c (n : Int) (w : World) (h1 : -9223372036854775808 ≤ n) (h2 : n ≤ 9223372036854775807) :
 Calls Tryz.prog 31 #[.int .i64 n] w fun e w' => (∃ v, e = .returned v ∧ IsRef w' v n) ∧ Below w.heap.size w w' := by
 obtain ⟨i0, hi, hz0, hz1, hz2⟩ := info_parts info32
 obtain ⟨m, hm⟩ : ∃ m : Nat, m = n.natAbs := ⟨_, rfl⟩
 have hmB : m < 18446744073709551616 := by omega
 by_cases h0 : n < 0
 · have e1 : IntKind.u64.wrap (-IntKind.u64.wrap n) = (m : Int) := by
    simp only [IntKind.wrap, IntKind.bits, IntKind.signed]
    simp
    omega
   have HS := hZ (show sg true m = n by simp [sg]; omega)
   clear hm
   go_enter Tryz.func31, Tryz.ntmps31
   go_wp2
   have hB := Below.refl w.heap.size w
   refine wp_name fun w0 hW0 => ?_
   have r0f : w0.frozen? ⟨w.heap.size, 0, none⟩ = false := by rw [hW0]; simp [go_sem, *]
   have r0 : w0.cell? ⟨w.heap.size, 0, none⟩ = some (.bool false) := bkn hW0
   have zr0 := cell_lt r0
   have r1f : w0.frozen? ⟨w.heap.size, 1, none⟩ = false := by rw [hW0]; simp [go_sem, *]
   have r1 : w0.cell? ⟨w.heap.size, 1, none⟩ = some (.slice none 0 0) := bkn hW0
   have hB : Below w.heap.size w w0 := by rw [hW0]; repeat (first|exact bzR _ _|exact hB|refine bzD ?_|refine bzN ?_|refine bzS ?_|refine bzA ?_)
   have hz := hB.size
   clear hW0
   go_loopw [3, 4] (fun x d wr => ∃ (u : Nat) (L : List Nat), x = .int .u64 u ∧ Own32 w0 wr d L ∧ NumR.Limbs L ∧ Hid (NumR.val L + NumR.BB ^ L.length * u = m)) (fun x _ _ => (intOf x).toNat)
   case atStart => exact ⟨m, [], rfl, Own32.nil (Below.refl _ _), (fun _ h => by cases h), hZ (by simp [NumR.val])⟩
   case round =>
    obtain ⟨u, L, rfl, hO, hL, hV⟩ := hrel
    by_cases hu : 0 < u
    · have hl := NumR.big hmB hu (Nat.le_trans (Nat.le_add_left _ _) (Nat.le_of_eq hV.out))
      have hum : u ≤ m := by
       have h1 := hV.out
       have h2 : 1 * u ≤ NumR.BB ^ L.length * u := Nat.mul_le_mul_right _ (Nat.pow_pos NumR.BB_pos)
       omega
      obtain ⟨y, hy⟩ : ∃ y, y = u % 65536 := ⟨_, rfl⟩
      obtain ⟨z, hz⟩ : ∃ z, z = u / 65536 := ⟨_, rfl⟩
      have ey : (u : Int) % 65536 = (y : Int) := by omega
      have ez : (u : Int) / 65536 = (z : Int) := by omega
      have hyB : y < 65536 := by omega
      have hzu : z < u := by omega
      have ez2 := w64 (x := z) (by unfold BB; omega)
      have HU := hZ (show y + 65536 * z = u by omega)
      clear hy hz
      go_wp2_with (at_builtin; refine app32 (X := [y]) rfl rfl hO rfl rfl ?_ ?_; (simp; omega); intro v' w1 hO1; clear hO)
      refine ⟨⟨z, L ++ [y], rfl, hO1, NumR.limbs_snoc hL hyB, hZ ?_⟩, by simp [intOf] <;> omega⟩
      rw [← hV.out, ← HU.out, NumR.val_append, List.length_append, List.length_singleton, Nat.pow_succ]
      simp only [NumR.val, Nat.mul_add, Nat.mul_zero, Nat.add_zero, Nat.mul_assoc, Nat.add_assoc]
      rfl
    · obtain rfl : u = 0 := by omega
      have HV := hZ (show NumR.val L = m by simpa using hV.out)
      clear hV
      obtain ⟨a1, c1, rfl, hU⟩ := hO.u32 (limbs_of_r hL)
      have hB1 := hO.2
      have r0f := bkeepf hB1 r0 r0f
      have r0 := bkeep hB1 r0
      have r1f := bkeepf hB1 r1 r1f
      have r1 := bkeep hB1 r1
      have hB := bthen hB hB1
      have hz := hB.size
      clear hO
      go_wp2_with fail
      refine (rnorm_c true a1 c1 L wr hU hL).mono ?_
      rintro e w2 ⟨⟨v, rfl, hi⟩, hb2⟩
      have r0f := bkeepf hb2 r0 r0f
      have r0 := bkeep hb2 r0
      have r1f := bkeepf hb2 r1 r1f
      have r1 := bkeep hb2 r1
      have hB := bthen hB hb2
      have hz := hB.size
      rw [HV.out, HS.out] at hi
      have HI2 := hZ (hi.put2 r0 r1)
      obtain ⟨n2, a2, c2, l2, rfl, _, _, _, _, _⟩ := hi
      unfold iv at *
      go_wp2
      refine bodyPost_ret (v := .agg #[.bool n2, .slice a2 l2.length c2]) (by simp [results, Tryz.results31, go_sem, *]) rfl ⟨⟨_, rfl, HI2.out _ _⟩, ?_⟩
      repeat exact bZ
 · obtain rfl : n = m := by omega
   have HS := hZ (show sg false m = m by simp [sg])
   clear hm
   go_enter Tryz.func31, Tryz.ntmps31
   go_wp2
   have hB := Below.refl w.heap.size w
   refine wp_name fun w0 hW0 => ?_
   have r0f : w0.frozen? ⟨w.heap.size, 0, none⟩ = false := by rw [hW0]; simp [go_sem, *]
   have r0 : w0.cell? ⟨w.heap.size, 0, none⟩ = some (.bool false) := bkn hW0
   have zr0 := cell_lt r0
   have r1f : w0.frozen? ⟨w.heap.size, 1, none⟩ = false := by rw [hW0]; simp [go_sem, *]
   have r1 : w0.cell? ⟨w.heap.size, 1, none⟩ = some (.slice none 0 0) := bkn hW0
   have hB : Below w.heap.size w w0 := by rw [hW0]; repeat (first|exact bzR _ _|exact hB|refine bzD ?_|refine bzN ?_|refine bzS ?_|refine bzA ?_)
   have hz := hB.size
   clear hW0
   go_loopw [3, 4] (fun x d wr => ∃ (u : Nat) (L : List Nat), x = .int .u64 u ∧ Own32 w0 wr d L ∧ NumR.Limbs L ∧ Hid (NumR.val L + NumR.BB ^ L.length * u = m)) (fun x _ _ => (intOf x).toNat)
   case atStart => exact ⟨m, [], rfl, Own32.nil (Below.refl _ _), (fun _ h => by cases h), hZ (by simp [NumR.val])⟩
   case round =>
    obtain ⟨u, L, rfl, hO, hL, hV⟩ := hrel
    by_cases hu : 0 < u
    · have hl := NumR.big hmB hu (Nat.le_trans (Nat.le_add_left _ _) (Nat.le_of_eq hV.out))
      have hum : u ≤ m := by
       have h1 := hV.out
       have h2 : 1 * u ≤ NumR.BB ^ L.length * u := Nat.mul_le_mul_right _ (Nat.pow_pos NumR.BB_pos)
       omega
      obtain ⟨y, hy⟩ : ∃ y, y = u % 65536 := ⟨_, rfl⟩
      obtain ⟨z, hz⟩ : ∃ z, z = u / 65536 := ⟨_, rfl⟩
      have ey : (u : Int) % 65536 = (y : Int) := by omega
      have ez : (u : Int) / 65536 = (z : Int) := by omega
      have hyB : y < 65536 := by omega
      have hzu : z < u := by omega
      have ez2 := w64 (x := z) (by unfold BB; omega)
      have HU := hZ (show y + 65536 * z = u by omega)
      clear hy hz
      go_wp2_with (at_builtin; refine app32 (X := [y]) rfl rfl hO rfl rfl ?_ ?_; (simp; omega); intro v' w1 hO1; clear hO)
      refine ⟨⟨z, L ++ [y], rfl, hO1, NumR.limbs_snoc hL hyB, hZ ?_⟩, by simp [intOf] <;> omega⟩
      rw [← hV.out, ← HU.out, NumR.val_append, List.length_append, List.length_singleton, Nat.pow_succ]
      simp only [NumR.val, Nat.mul_add, Nat.mul_zero, Nat.add_zero, Nat.mul_assoc, Nat.add_assoc]
      rfl
    · obtain rfl : u = 0 := by omega
      have HV := hZ (show NumR.val L = m by simpa using hV.out)
      clear hV
      obtain ⟨a1, c1, rfl, hU⟩ := hO.u32 (limbs_of_r hL)
      have hB1 := hO.2
      have r0f := bkeepf hB1 r0 r0f
      have r0 := bkeep hB1 r0
      have r1f := bkeepf hB1 r1 r1f
      have r1 := bkeep hB1 r1
      have hB := bthen hB hB1
      have hz := hB.size
      clear hO
      go_wp2_with fail
      refine (rnorm_c false a1 c1 L wr hU hL).mono ?_
      rintro e w2 ⟨⟨v, rfl, hi⟩, hb2⟩
      have r0f := bkeepf hb2 r0 r0f
      have r0 := bkeep hb2 r0
      have r1f := bkeepf hb2 r1 r1f
      have r1 := bkeep hb2 r1
      have hB := bthen hB hb2
      have hz := hB.size
      rw [HV.out, HS.out] at hi
      have HI2 := hZ (hi.put2 r0 r1)
      obtain ⟨n2, a2, c2, l2, rfl, _, _, _, _, _⟩ := hi
      unfold iv at *
      go_wp2
      refine bodyPost_ret (v := .agg #[.bool n2, .slice a2 l2.length c2]) (by simp [results, Tryz.results31, go_sem, *]) rfl ⟨⟨_, rfl, HI2.out _ _⟩, ?_⟩
      repeat exact bZ
end Go.Proofs.YtbmaffijncapiaaGreatDoor
namespace Go.Proofs.YtbmaffijncapiaaGreatDoor
open Num
open Go.ChangeShapes Go.WideShapes Go.ChangeAt Go.RowKit

theorem rsize_c (a b : Option Addr) (ca cb : Nat) (L M : List Nat) (w : World) (ha : U32 w a ca L) (hb : U32 w b cb M) (hL : NumR.Limbs L) (hM : NumR.Limbs M) (na : Nrm L) (nb : Nrm M) :
 Calls Tryz.prog 206 #[.slice a L.length ca, .slice b M.length cb] w fun e w' => e = .returned (.int .i64 (cmpN (NumR.val L) (NumR.val M))) ∧ Below w.heap.size w w' := by
 obtain ⟨hLca, hLm, -, hLc⟩ := ha
 obtain ⟨hMcb, hMm, -, hMc⟩ := hb
 unfold maxLen at hLm hMm
 rcases Nat.lt_trichotomy L.length M.length with hlt | heq | hgt
 · have hne : ((L.length : Int) != (M.length : Int)) = true := by simp; omega
   go_enter Tryz.func206, Tryz.ntmps206
   go_wp2
   go_ret
   exact ⟨by rw [cmpN_lt (NumR.val_lt_of_len hL nb hlt)]; rfl, Below.refl _ _⟩
 · clear na nb
   have HQ := hZ heq
   clear heq
   generalize hM' : M.length = n at *
   have HM := hZ hM'
   clear hM'
   generalize hL' : L.length = n' at *
   obtain rfl : n' = n := HQ.out
   have HL := hZ hL'
   clear hL' HQ
   have hne : ((n' : Int) != (n' : Int)) = false := by simp
   go_enter Tryz.func206, Tryz.ntmps206
   go_wp2
   go_loopw [5] (fun x wr => ∃ k : Nat, k ≤ n' ∧ x = .int .i64 ((k : Int) - 1) ∧ L.drop k = M.drop k ∧ Below w.heap.size w wr) (fun x _ => (intOf x + 1).toNat)
   case atStart =>
    refine ⟨n', Nat.le_refl _, rfl, ?_, Below.refl _ _⟩
    rw [List.drop_eq_nil_of_le (by have := HL.out; omega), List.drop_eq_nil_of_le (by have := HM.out; omega)]
   case round =>
    obtain ⟨k, hk, rfl, hd, hB⟩ := hrel
    have HD := hZ hd
    clear hd
    cases k with
    | zero =>
     go_wp2
     go_ret
     have e : L = M := by simpa using HD.out
     exact ⟨by rw [cmpN_eq (by rw [e])]; rfl, hB⟩
    | succ j =>
     have hjL : j < L.length := by have := HL.out; omega
     have hjM : j < M.length := by have := HM.out; omega
     rcases hLc with rfl | ⟨ba, oa, rfl, hca⟩
     · simp at hjL
     rcases hMc with rfl | ⟨bb, ob, rfl, hcb⟩
     · simp at hjM
     have cj := bkeep hB (hca j (by omega))
     have dj := bkeep hB (hcb j (by omega))
     have HLt := hZ (fun h => NumR.val_lt_of_top hjL hjM hL HD.out h)
     have HGt := hZ (fun h => NumR.val_lt_of_top hjM hjL hM HD.out.symm h)
     have HEq := hZ (fun h => NumR.drop_step hjL hjM HD.out h)
     have hjn : (j : Int) < (n' : Int) := by omega
     generalize L.getD j 0 = x at *
     generalize M.getD j 0 = y at *
     rcases Nat.lt_trichotomy x y with h1 | h1 | h1
     · have h1' : (x : Int) < (y : Int) := by omega
       go_wp2
       go_quiet (fail)
       go_wp2
       go_ret
       exact ⟨by rw [cmpN_lt (HLt.out h1)]; rfl, by repeat (first | exact hB | refine below_drewN ?_ _)⟩
     · subst h1
       go_wp2
       go_quiet (fail)
       go_wp2
       go_quiet (fail)
       go_wp2
       exact ⟨⟨j, by omega, rfl, HEq.out (by trivial), by repeat (first | exact hB | refine below_drewN ?_ _)⟩, by simp [intOf] <;> omega⟩
     · have h1' : ¬ ((x : Int) < (y : Int)) := by omega
       have h1'' : ((y : Int) < (x : Int)) := by omega
       go_wp2
       go_quiet (fail)
       go_wp2
       go_quiet (fail)
       go_wp2
       go_ret
       exact ⟨by rw [cmpN_gt (HGt.out h1)]; rfl, by repeat (first | exact hB | refine below_drewN ?_ _)⟩
 · have hne : ((L.length : Int) != (M.length : Int)) = true := by simp; omega
   have hc1 : ¬ (L.length < M.length) := by omega
   go_enter Tryz.func206, Tryz.ntmps206
   go_wp2
   go_ret
   exact ⟨by rw [cmpN_gt (NumR.val_lt_of_len hM na hgt)]; rfl, Below.refl _ _⟩

theorem rsg_sign {neg : Bool} {l : List Nat} (hn : Nrm l) (hs : neg = true → l ≠ []) : (sg neg (NumR.val l)).sign = if l.length = 0 then 0 else if neg then -1 else 1 := by
 by_cases h0 : l = []
 · subst h0; cases neg <;> simp [sg, NumR.val]
 · have h1 : 0 < NumR.val l := Nat.pos_of_ne_zero (fun e => h0 ((NumR.val_nil_iff hn).1 e))
   have h2 : l.length ≠ 0 := by simpa using h0
   rw [if_neg h2]
   cases neg with
   | true => simp only [sg, if_true]; rw [Int.sign_neg, Int.sign_eq_one_of_pos (by omega)]
   | false => simp only [sg]; exact Int.sign_eq_one_of_pos (by simp; omega)

def sgV (n : Bool) (k : Nat) : Int := if k = 0 then 0 else if n then -1 else 1
theorem sgV_neg {n : Bool} {k : Nat} (h : sgV n k < 0) : n = true := by
 cases n with
 | true => rfl
 | false => exfalso; revert h; unfold sgV; split <;> simp
theorem rsignV_c (n1 : Bool) (a1 : Option Addr) (k c1 : Nat) (w : World) :
 Calls Tryz.prog 75 #[.agg #[.bool n1, .slice a1 k c1]] w fun e w' => e = .returned (.int .i64 (sgV n1 k)) ∧ Below w.heap.size w w' := by
 have hB0 := Below.refl w.heap.size w
 have HS := hZ (show sgV n1 k = sgV n1 k from rfl)
 cases k with
 | zero =>
  go_enter Tryz.func75, Tryz.ntmps75
  go_wp2
  go_ret
  refine ⟨rfl, ?_⟩
  repeat exact bZ
 | succ k =>
  cases n1 with
  | true =>
   go_enter Tryz.func75, Tryz.ntmps75
   go_wp2
   go_ret
   refine ⟨rfl, ?_⟩
   repeat exact bZ
  | false =>
   go_enter Tryz.func75, Tryz.ntmps75
   go_wp2
   go_ret
   refine ⟨rfl, ?_⟩
   repeat exact bZ

namespace Num
theorem cmpI_sign_lt {x y : Int} (h : x.sign < y.sign) : cmpI x y = -1 := by
 unfold cmpI
 rw [if_pos]
 rcases Int.lt_trichotomy x 0 with h1 | h1 | h1 <;> rcases Int.lt_trichotomy y 0 with h2 | h2 | h2 <;>
  first
   | (rw [Int.sign_eq_neg_one_of_neg h1, Int.sign_eq_neg_one_of_neg h2] at h; omega)
   | (rw [Int.sign_eq_one_of_pos h1, Int.sign_eq_one_of_pos h2] at h; omega)
   | (rw [Int.sign_eq_one_of_pos h1, Int.sign_eq_neg_one_of_neg h2] at h; omega)
   | (subst h1; rw [Int.sign_eq_neg_one_of_neg h2] at h; simp at h; done)
   | (subst h2; rw [Int.sign_eq_one_of_pos h1] at h; simp at h; done)
   | (subst h1; subst h2; simp at h; done)
   | omega
theorem cmpI_swap (x y : Int) : cmpI x y = -cmpI y x := by
 unfold cmpI
 (repeat' split) <;> first | rfl | omega
theorem cmpI_sign_gt {x y : Int} (h : y.sign < x.sign) : cmpI x y = 1 := by
 rw [cmpI_swap, cmpI_sign_lt h]; rfl
end Num

theorem rcmp_c (vx vy : Value) (x y : Int) (w : World) (hx : IsRef w vx x) (hy : IsRef w vy y) :
 Calls Tryz.prog 214 #[vx, vy] w fun e w' => e = .returned (.int .i64 (cmpI x y)) ∧ Below w.heap.size w w' := by
 obtain ⟨n1, a1, c1, l1, rfl, u1, q1, g1, s1, hv1⟩ := hx
 obtain ⟨n2, a2, c2, l2, rfl, u2, q2, g2, s2, hv2⟩ := hy
 have hB := Below.refl w.heap.size w
 have e1 : sgV n1 l1.length = x.sign := by rw [hv1, rsg_sign g1 s1]; rfl
 have e2 : sgV n2 l2.length = y.sign := by rw [hv2, rsg_sign g2 s2]; rfl
 have sc1 : ∀ w, _ := fun w => rsignV_c n1 a1 l1.length c1 w
 have sc2 : ∀ w, _ := fun w => rsignV_c n2 a2 l2.length c2 w
 rw [e1] at sc1
 rw [e2] at sc2
 have HX := hZ hv1
 have HY := hZ hv2
 have HE1 := hZ e1
 have HE2 := hZ e2
 clear hv1 hv2 e1 e2
 unfold iv
 have hcase : x.sign < y.sign ∨ y.sign < x.sign ∨ x.sign = y.sign := by omega
 have hbx : -1 ≤ x.sign ∧ x.sign ≤ 1 := by
  rw [← HE1.out]; unfold sgV; (repeat' split) <;> omega
 rcases hcase with h | h | h
 · have HC := hZ (cmpI_sign_lt h)
   have t1 : (x.sign != y.sign) = true := by simp; omega
   generalize x.sign = X at *
   generalize y.sign = Y at *
   go_enter Tryz.func214, Tryz.ntmps214
   go_wp2
   refine wp_name fun w0 hW0 => ?_
   have x0 : w0.cell? ⟨w.heap.size, 0, none⟩ = some (.bool n1) := bkn hW0
   have zx0 := cell_lt x0
   have x1 : w0.cell? ⟨w.heap.size, 1, none⟩ = some (.slice a1 l1.length c1) := bkn hW0
   have y0 : w0.cell? ⟨w.heap.size + 1, 0, none⟩ = some (.bool n2) := bkn hW0
   have zy0 := cell_lt y0
   have y1 : w0.cell? ⟨w.heap.size + 1, 1, none⟩ = some (.slice a2 l2.length c2) := bkn hW0
   have hB : Below w.heap.size w w0 := by rw [hW0]; repeat (first|exact bzR _ _|exact hB|refine bzD ?_|refine bzN ?_|refine bzS ?_|refine bzA ?_)
   have hz := hB.size
   clear hW0
   refine wp_region_grow (w := w0) (by kernel_rfl) (by kernel_rfl) ?_
   have x0g : ∀ gs, (grow w0 gs).cell? ⟨w.heap.size, 0, none⟩ = some (.bool n1) := fun gs => bkeep gs.below x0
   have x1g : ∀ gs, (grow w0 gs).cell? ⟨w.heap.size, 1, none⟩ = some (.slice a1 l1.length c1) := fun gs => bkeep gs.below x1
   have y0g : ∀ gs, (grow w0 gs).cell? ⟨w.heap.size + 1, 0, none⟩ = some (.bool n2) := fun gs => bkeep gs.below y0
   have y1g : ∀ gs, (grow w0 gs).cell? ⟨w.heap.size + 1, 1, none⟩ = some (.slice a2 l2.length c2) := fun gs => bkeep gs.below y1
   repeat (go_big_quiet_step (first | (go_at_call 75; with_reducible refine grow_of (sc1 _)) | (go_at_call 75; with_reducible refine grow_of (sc2 _))))
   refine wpQuiet_nil ?_
   intro w1 hb1
   clear x0g
   clear x1g
   clear y0g
   clear y1g
   have x0 : w1.cell? ⟨w.heap.size, 0, none⟩ = some (.bool n1) := bkc hb1
   have zx0 := cell_lt x0
   have x1 : w1.cell? ⟨w.heap.size, 1, none⟩ = some (.slice a1 l1.length c1) := bkc hb1
   have y0 : w1.cell? ⟨w.heap.size + 1, 0, none⟩ = some (.bool n2) := bkc hb1
   have zy0 := cell_lt y0
   have y1 : w1.cell? ⟨w.heap.size + 1, 1, none⟩ = some (.slice a2 l2.length c2) := bkc hb1
   have hB : Below w.heap.size w w1 := bthen bZ hb1
   have hz := hB.size
   go_wp2
   go_ret
   exact ⟨by rw [HC.out]; rfl, hB⟩
 · have HC := hZ (cmpI_sign_gt h)
   have t1 : (x.sign != y.sign) = true := by simp; omega
   have t2 : ¬ x.sign < y.sign := by omega
   generalize x.sign = X at *
   generalize y.sign = Y at *
   go_enter Tryz.func214, Tryz.ntmps214
   go_wp2
   refine wp_name fun w0 hW0 => ?_
   have x0 : w0.cell? ⟨w.heap.size, 0, none⟩ = some (.bool n1) := bkn hW0
   have zx0 := cell_lt x0
   have x1 : w0.cell? ⟨w.heap.size, 1, none⟩ = some (.slice a1 l1.length c1) := bkn hW0
   have y0 : w0.cell? ⟨w.heap.size + 1, 0, none⟩ = some (.bool n2) := bkn hW0
   have zy0 := cell_lt y0
   have y1 : w0.cell? ⟨w.heap.size + 1, 1, none⟩ = some (.slice a2 l2.length c2) := bkn hW0
   have hB : Below w.heap.size w w0 := by rw [hW0]; repeat (first|exact bzR _ _|exact hB|refine bzD ?_|refine bzN ?_|refine bzS ?_|refine bzA ?_)
   have hz := hB.size
   clear hW0
   refine wp_region_grow (w := w0) (by kernel_rfl) (by kernel_rfl) ?_
   have x0g : ∀ gs, (grow w0 gs).cell? ⟨w.heap.size, 0, none⟩ = some (.bool n1) := fun gs => bkeep gs.below x0
   have x1g : ∀ gs, (grow w0 gs).cell? ⟨w.heap.size, 1, none⟩ = some (.slice a1 l1.length c1) := fun gs => bkeep gs.below x1
   have y0g : ∀ gs, (grow w0 gs).cell? ⟨w.heap.size + 1, 0, none⟩ = some (.bool n2) := fun gs => bkeep gs.below y0
   have y1g : ∀ gs, (grow w0 gs).cell? ⟨w.heap.size + 1, 1, none⟩ = some (.slice a2 l2.length c2) := fun gs => bkeep gs.below y1
   repeat (go_big_quiet_step (first | (go_at_call 75; with_reducible refine grow_of (sc1 _)) | (go_at_call 75; with_reducible refine grow_of (sc2 _))))
   refine wpQuiet_nil ?_
   intro w1 hb1
   clear x0g
   clear x1g
   clear y0g
   clear y1g
   have x0 : w1.cell? ⟨w.heap.size, 0, none⟩ = some (.bool n1) := bkc hb1
   have zx0 := cell_lt x0
   have x1 : w1.cell? ⟨w.heap.size, 1, none⟩ = some (.slice a1 l1.length c1) := bkc hb1
   have y0 : w1.cell? ⟨w.heap.size + 1, 0, none⟩ = some (.bool n2) := bkc hb1
   have zy0 := cell_lt y0
   have y1 : w1.cell? ⟨w.heap.size + 1, 1, none⟩ = some (.slice a2 l2.length c2) := bkc hb1
   have hB : Below w.heap.size w w1 := bthen bZ hb1
   have hz := hB.size
   go_wp2
   go_ret
   exact ⟨by rw [HC.out]; rfl, hB⟩
 · have zc1 := fun w hx hy => rsize_c a1 a2 c1 c2 l1 l2 w hx hy q1 q2 g1 g2
   have zc2 := fun w hx hy => rsize_c a2 a1 c2 c1 l2 l1 w hx hy q2 q1 g2 g1
   have t1 : (x.sign != y.sign) = false := by simp [h]
   rw [← h] at sc2 t1
   by_cases hn : x.sign < 0
   · have HC := hZ (show cmpN (NumR.val l2) (NumR.val l1) = cmpI x y by
      have k1 : n1 = true := sgV_neg (by rw [HE1.out]; omega)
      have k2 : n2 = true := sgV_neg (by rw [HE2.out]; omega)
      rw [HX.out, HY.out, k1, k2, cmpI_nn])
     clear h hbx
     generalize x.sign = X at *
     generalize cmpN (NumR.val l2) (NumR.val l1) = z at *
     clear zc1
     go_enter Tryz.func214, Tryz.ntmps214
     go_wp2
     refine wp_name fun w0 hW0 => ?_
     have x0 : w0.cell? ⟨w.heap.size, 0, none⟩ = some (.bool n1) := bkn hW0
     have zx0 := cell_lt x0
     have x1 : w0.cell? ⟨w.heap.size, 1, none⟩ = some (.slice a1 l1.length c1) := bkn hW0
     have y0 : w0.cell? ⟨w.heap.size + 1, 0, none⟩ = some (.bool n2) := bkn hW0
     have zy0 := cell_lt y0
     have y1 : w0.cell? ⟨w.heap.size + 1, 1, none⟩ = some (.slice a2 l2.length c2) := bkn hW0
     have hB : Below w.heap.size w w0 := by rw [hW0]; repeat (first|exact bzR _ _|exact hB|refine bzD ?_|refine bzN ?_|refine bzS ?_|refine bzA ?_)
     have hz := hB.size
     clear hW0
     refine wp_region_grow (w := w0) (by kernel_rfl) (by kernel_rfl) ?_
     have x0g : ∀ gs, (grow w0 gs).cell? ⟨w.heap.size, 0, none⟩ = some (.bool n1) := fun gs => bkeep gs.below x0
     have x1g : ∀ gs, (grow w0 gs).cell? ⟨w.heap.size, 1, none⟩ = some (.slice a1 l1.length c1) := fun gs => bkeep gs.below x1
     have y0g : ∀ gs, (grow w0 gs).cell? ⟨w.heap.size + 1, 0, none⟩ = some (.bool n2) := fun gs => bkeep gs.below y0
     have y1g : ∀ gs, (grow w0 gs).cell? ⟨w.heap.size + 1, 1, none⟩ = some (.slice a2 l2.length c2) := fun gs => bkeep gs.below y1
     repeat (go_big_quiet_step (first | (go_at_call 75; with_reducible refine grow_of (sc1 _)) | (go_at_call 75; with_reducible refine grow_of (sc2 _))))
     refine wpQuiet_nil ?_
     intro w1 hb1
     clear x0g
     clear x1g
     clear y0g
     clear y1g
     have x0 : w1.cell? ⟨w.heap.size, 0, none⟩ = some (.bool n1) := bkc hb1
     have zx0 := cell_lt x0
     have x1 : w1.cell? ⟨w.heap.size, 1, none⟩ = some (.slice a1 l1.length c1) := bkc hb1
     have y0 : w1.cell? ⟨w.heap.size + 1, 0, none⟩ = some (.bool n2) := bkc hb1
     have zy0 := cell_lt y0
     have y1 : w1.cell? ⟨w.heap.size + 1, 1, none⟩ = some (.slice a2 l2.length c2) := bkc hb1
     have hB : Below w.heap.size w w1 := bthen bZ hb1
     have hz := hB.size
     go_wp2_with fail
     refine (zc2 _ (u2.keep hB) (u1.keep hB)).mono ?_
     rintro e w2 ⟨rfl, hb2⟩
     go_wp2
     go_ret
     exact ⟨by rw [HC.out]; rfl, bthen hB hb2⟩
   · have HC := hZ (show cmpN (NumR.val l1) (NumR.val l2) = cmpI x y by
      have k1 : x = sg false (NumR.val l1) := by
       have h1 := HX.out
       cases n1 with
       | false => exact h1
       | true =>
        by_cases h0 : l1 = []
        · rw [h1, h0]; rfl
        · exfalso; have := HE1.out; unfold sgV at this; rw [if_neg (by simpa using h0)] at this; simp at this; omega
      have k2 : y = sg false (NumR.val l2) := by
       have h1 := HY.out
       cases n2 with
       | false => exact h1
       | true =>
        by_cases h0 : l2 = []
        · rw [h1, h0]; rfl
        · exfalso; have := HE2.out; unfold sgV at this; rw [if_neg (by simpa using h0)] at this; simp at this; omega
      rw [k1, k2, cmpI_pp])
     clear h hbx
     generalize x.sign = X at *
     generalize cmpN (NumR.val l1) (NumR.val l2) = z at *
     clear zc2
     go_enter Tryz.func214, Tryz.ntmps214
     go_wp2
     refine wp_name fun w0 hW0 => ?_
     have x0 : w0.cell? ⟨w.heap.size, 0, none⟩ = some (.bool n1) := bkn hW0
     have zx0 := cell_lt x0
     have x1 : w0.cell? ⟨w.heap.size, 1, none⟩ = some (.slice a1 l1.length c1) := bkn hW0
     have y0 : w0.cell? ⟨w.heap.size + 1, 0, none⟩ = some (.bool n2) := bkn hW0
     have zy0 := cell_lt y0
     have y1 : w0.cell? ⟨w.heap.size + 1, 1, none⟩ = some (.slice a2 l2.length c2) := bkn hW0
     have hB : Below w.heap.size w w0 := by rw [hW0]; repeat (first|exact bzR _ _|exact hB|refine bzD ?_|refine bzN ?_|refine bzS ?_|refine bzA ?_)
     have hz := hB.size
     clear hW0
     refine wp_region_grow (w := w0) (by kernel_rfl) (by kernel_rfl) ?_
     have x0g : ∀ gs, (grow w0 gs).cell? ⟨w.heap.size, 0, none⟩ = some (.bool n1) := fun gs => bkeep gs.below x0
     have x1g : ∀ gs, (grow w0 gs).cell? ⟨w.heap.size, 1, none⟩ = some (.slice a1 l1.length c1) := fun gs => bkeep gs.below x1
     have y0g : ∀ gs, (grow w0 gs).cell? ⟨w.heap.size + 1, 0, none⟩ = some (.bool n2) := fun gs => bkeep gs.below y0
     have y1g : ∀ gs, (grow w0 gs).cell? ⟨w.heap.size + 1, 1, none⟩ = some (.slice a2 l2.length c2) := fun gs => bkeep gs.below y1
     repeat (go_big_quiet_step (first | (go_at_call 75; with_reducible refine grow_of (sc1 _)) | (go_at_call 75; with_reducible refine grow_of (sc2 _))))
     refine wpQuiet_nil ?_
     intro w1 hb1
     clear x0g
     clear x1g
     clear y0g
     clear y1g
     have x0 : w1.cell? ⟨w.heap.size, 0, none⟩ = some (.bool n1) := bkc hb1
     have zx0 := cell_lt x0
     have x1 : w1.cell? ⟨w.heap.size, 1, none⟩ = some (.slice a1 l1.length c1) := bkc hb1
     have y0 : w1.cell? ⟨w.heap.size + 1, 0, none⟩ = some (.bool n2) := bkc hb1
     have zy0 := cell_lt y0
     have y1 : w1.cell? ⟨w.heap.size + 1, 1, none⟩ = some (.slice a2 l2.length c2) := bkc hb1
     have hB : Below w.heap.size w w1 := bthen bZ hb1
     have hz := hB.size
     go_wp2_with fail
     refine (zc1 _ (u1.keep hB) (u2.keep hB)).mono ?_
     rintro e w2 ⟨rfl, hb2⟩
     go_wp2
     go_ret
     exact ⟨by rw [HC.out]; rfl, bthen hB hb2⟩

namespace Num
theorem cmpI_zero {x y : Int} : (cmpI x y == 0) = decide (x = y) := by
 unfold cmpI
 (repeat' split) <;> simp <;> omega
end Num
theorem rsame_c (vx vy : Value) (x y : Int) (w : World) (hx : IsRef w vx x) (hy : IsRef w vy y) :
 Calls Tryz.prog 133 #[vx, vy] w fun e w' => e = .returned (.bool (decide (x = y))) ∧ Below w.heap.size w w' := by
 have rc := fun w h1 h2 => rcmp_c vx vy x y w h1 h2
 have HX := hZ hx
 have HY := hZ hy
 obtain ⟨n1, a1, c1, l1, rfl, -⟩ := hx
 obtain ⟨n2, a2, c2, l2, rfl, -⟩ := hy
 have HZ := hZ (cmpI_zero (x := x) (y := y))
 have hB0 := Below.refl w.heap.size w
 generalize cmpI x y = z at *
 unfold iv at *
 go_enter Tryz.func133, Tryz.ntmps133
 go_wp2_with fail
 refine (rc _ (HX.out.keep bZ) (HY.out.keep bZ)).mono ?_
 rintro e w2 ⟨rfl, hb2⟩
 go_wp2
 go_ret
 refine ⟨by rw [← HZ.out]; rfl, ?_⟩
 refine bthen ?_ hb2
 repeat exact bZ
end Go.Proofs.YtbmaffijncapiaaGreatDoor
namespace Go.Proofs.YtbmaffijncapiaaGreatDoor
open Go.ChangeShapes Go.WideShapes Go.ChangeAt Go.RowKit
section
open Num
def Lim (w w' : World) : Prop := ∀ (b : Nat), typOf w b = some 177 → typOf w' b = some 177 ∧ ∀ (o : Nat) (n : Int), w.cell? ⟨b, o, none⟩ = some (.int .u32 n) → w'.cell? ⟨b, o, none⟩ = some (.int .u32 n)
section
variable {a b c w w' : World}
theorem Lim.refl (w : World) : Lim w w := fun _ h => ⟨h, fun _ _ h => h⟩
theorem Lim.trans (h : Lim a b) (k : Lim b c) : Lim a c := fun q ht => ⟨(k q (h q ht).1).1, fun o n hc => (k q (h q ht).1).2 o n ((h q ht).2 o n hc)⟩
theorem Lim.of_below (h : Below a.heap.size a b) : Lim a b := fun _ ht => ⟨typ_keep ht h, fun _ _ hc => bkeep h hc⟩
theorem Lim.below (h : Lim a b) (k : Below b.heap.size b c) : Lim a c := h.trans (.of_below k)
theorem Lim.alloc (h : Lim a b) (o : Obj) : Lim a (b.alloc o) := h.below (bal (Below.refl _ _) o)
theorem Lim.drew (h : Lim a b) : Lim a b.drew := h
theorem Lim.drewN (h : Lim a b) (n : Nat) : Lim a (b.drewN n) := h
theorem Lim.grown {row : Option Nat} (h : Lim a b) (hg : b.grownBy c row) (hr : ∀ g, row = some g → typOf b g ≠ some 177) : Lim a c := h.trans fun q ht => by
 have e : c.heap[q]? = b.heap[q]? := hg.block q (typ_lt ht) fun e => hr q e.symm ht
 exact ⟨by rw [typ_of_block e]; exact ht, fun o n hc => by rw [World.cell?_of_block (w := b) e]; exact hc⟩
theorem Lim.put (h : Lim a b) {p : Addr} {v : Value} (hp : b.cell? p = some v) (hv : ∀ n, v ≠ .int .u32 n) (u : Value) : Lim a (b.setCell p u) := fun q ht => by
 refine ⟨by rw [typ_set]; exact (h q ht).1, fun o n hc => cell_far ((h q ht).2 o n hc) ?_ u⟩
 intro e
 rw [e, (h q ht).2 o n hc] at hp
 exact hv _ (Option.some.inj hp).symm
theorem Lim.bool (h : Lim a b) {p : Addr} {x : Bool} (hp : b.cell? p = some (.bool x)) (u : Value) : Lim a (b.setCell p u) := h.put hp (fun _ e => by cases e) u
theorem Lim.slice (h : Lim a b) {p : Addr} {x : Option Addr} {n m : Nat} (hp : b.cell? p = some (.slice x n m)) (u : Value) : Lim a (b.setCell p u) := h.put hp (fun _ e => by cases e) u
theorem C32.lim {o : Option Addr} {l : List Nat} (h : C32 a o l) (k : Lim a b) : C32 b o l := by
 rcases h with h | ⟨q, off, h1, h2⟩
 · exact .inl h
 · exact .inr ⟨q, off, h1, fun i hi => (k q h2.ty).2 _ _ (h2 i hi), (k q h2.ty).1⟩
theorem U32.lim {o : Option Addr} {cap : Nat} {l : List Nat} (h : U32 a o cap l) (k : Lim a b) : U32 b o cap l := ⟨h.1, h.2.1, h.2.2.1, h.2.2.2.lim k⟩
theorem IsInt.lim {v : Value} {z : Int} (h : IsInt a v z) (k : Lim a b) : IsInt b v z := by
 obtain ⟨neg, o, cap, l, h1, h2, h3⟩ := h
 exact ⟨neg, o, cap, l, h1, h2.lim k, h3⟩
theorem IsRef.lim {v : Value} {z : Int} (h : IsRef a v z) (k : Lim a b) : IsRef b v z := by
 obtain ⟨neg, o, cap, l, h1, h2, h3⟩ := h
 exact ⟨neg, o, cap, l, h1, h2.lim k, h3⟩
end
def Lims (R : World → Value → Int → Prop) : Prop := ∀ w w' v z, R w v z → Lim w w' → R w' v z
theorem lims_int : Lims IsInt := fun _ _ _ _ h k => h.lim k
theorem lims_ref : Lims IsRef := fun _ _ _ _ h k => h.lim k
theorem own_typ {E : TypeId} {size n : Nat} {w0 wr : World} {v : Value} {xs : List Value} (h : OwnE E size w0 wr v n xs) {g : Nat} (hg : v.ownBlock = some g) : typOf wr g = some E := by
 rcases h.1.2 with ⟨rfl, _⟩ | ⟨g', c, cur, rfl, _, hh, _⟩
 · simp [Value.ownBlock] at hg
 · simp [Value.ownBlock] at hg
   subst hg
   unfold typOf; rw [hh]
end
theorem bret {a b : Bool} (h : a = b) : Ending.returned (.bool a) = Ending.returned (.bool b) := by rw [h]
structure Ins where
 op : Int
 «to» : Int
 a : Int
 b : Int
 c : Int
deriving Inhabited
def Ins.v (i : Ins) : Value := .agg #[.int .i64 i.op, .int .i64 i.to, .int .i64 i.a, .int .i64 i.b, .int .i64 i.c]
def twoB (op : Int) : Bool := decide (op = 3 ∨ op = 4)
def constB (op c : Int) : Bool := if op = 5 ∨ op = 6 then decide (c ≠ 0 ∧ -512 ≤ c ∧ c ≤ 512) else if op = 7 ∨ op = 8 then decide (1 ≤ c ∧ c ≤ 64) else decide (c = 0)
theorem constB_mul {op c : Int} (h : op = 5 ∨ op = 6) : constB op c = decide (c ≠ 0 ∧ -512 ≤ c ∧ c ≤ 512) := by unfold constB; rw [if_pos h]
theorem constB_shift {op c : Int} (h : op = 7 ∨ op = 8) : constB op c = decide (1 ≤ c ∧ c ≤ 64) := by unfold constB; rw [if_neg (by omega), if_pos h]
theorem constB_else {op c : Int} (h : ¬ (op = 5 ∨ op = 6)) (h2 : ¬ (op = 7 ∨ op = 8)) : constB op c = decide (c = 0) := by unfold constB; rw [if_neg h, if_neg h2]

theorem two_c (op : Int) (w : World) : Calls Tryz.prog 216 #[.int .i64 op] w fun e w' => e = .returned (.bool (twoB op)) ∧ w' = w := by
 go_enter Tryz.func216, Tryz.ntmps216
 go_wp2
 all_goals go_ret
 all_goals exact ⟨bret (by rw [Bool.eq_iff_iff]; simp [twoB] <;> omega), rfl⟩

theorem constant_c (op t a b c : Int) (w : World) : Calls Tryz.prog 238 #[.agg #[.int .i64 op, .int .i64 t, .int .i64 a, .int .i64 b, .int .i64 c]] w fun e w' => e = .returned (.bool (constB op c)) ∧ Below w.heap.size w w' := by
 by_cases h : op = 5 ∨ op = 6
 · rw [constB_mul h]
   rcases h with rfl | rfl
   all_goals
    go_enter Tryz.func238, Tryz.ntmps238
    go_wp2
    all_goals go_ret
    all_goals exact ⟨bret (by rw [Bool.eq_iff_iff]; simp <;> omega), by repeat (first | exact Below.refl _ _ | assumption | refine bal ?_ _)⟩
 · by_cases h2 : op = 7 ∨ op = 8
   · rw [constB_shift h2]
     rcases h2 with rfl | rfl
     all_goals
      go_enter Tryz.func238, Tryz.ntmps238
      go_wp2
      all_goals go_ret
      all_goals exact ⟨bret (by rw [Bool.eq_iff_iff]; simp <;> omega), by repeat (first | exact Below.refl _ _ | assumption | refine bal ?_ _)⟩
   · rw [constB_else h h2]
     have t5 : (op == 5) = false := by simp; omega
     have t6 : (op == 6) = false := by simp; omega
     have t7 : (op == 7) = false := by simp; omega
     have t8 : (op == 8) = false := by simp; omega
     clear h h2
     go_enter Tryz.func238, Tryz.ntmps238
     go_wp2
     all_goals go_ret
     all_goals exact ⟨bret (by rw [Bool.eq_iff_iff]; simp <;> omega), by repeat (first | exact Below.refl _ _ | assumption | refine bal ?_ _)⟩
theorem asks_two (op t a b c : Int) (w : World) (h : op = 3 ∨ op = 4) : Calls Tryz.prog 239 #[.agg #[.int .i64 op, .int .i64 t, .int .i64 a, .int .i64 b, .int .i64 c]] w fun e w' => e = .returned (.slice (some ⟨w.heap.size + 1, 0, none⟩) 2 2) ∧ w'.cell? ⟨w.heap.size + 1, 0, none⟩ = some (.int .i64 a) ∧ w'.cell? ⟨w.heap.size + 1, 1, none⟩ = some (.int .i64 b) ∧ Below w.heap.size w w' := by
 rcases h with rfl | rfl
 all_goals
  go_enter Tryz.func239, Tryz.ntmps239
  go_wp2
  go_ret
  exact ⟨rfl, cell_new (by simp) rfl, cell_new (by simp) rfl, bal (bal (Below.refl _ _) _) _⟩
theorem asks_one (op t a b c : Int) (w : World) (h1 : 1 ≤ op) (h2 : op ≤ 8) (h : twoB op = false) : Calls Tryz.prog 239 #[.agg #[.int .i64 op, .int .i64 t, .int .i64 a, .int .i64 b, .int .i64 c]] w fun e w' => e = .returned (.slice (some ⟨w.heap.size + 1, 0, none⟩) 1 1) ∧ w'.cell? ⟨w.heap.size + 1, 0, none⟩ = some (.int .i64 a) ∧ Below w.heap.size w w' := by
 have h3 : ¬ (op = 3 ∨ op = 4) := by simpa [twoB] using h
 clear h
 have hc : op = 1 ∨ op = 2 ∨ op = 5 ∨ op = 6 ∨ op = 7 ∨ op = 8 := by omega
 clear h1 h2 h3
 rcases hc with rfl | rfl | rfl | rfl | rfl | rfl
 all_goals
  go_enter Tryz.func239, Tryz.ntmps239
  go_wp2
  go_ret
  exact ⟨rfl, cell_new (by simp) rfl, bal (bal (Below.refl _ _) _) _⟩
end Go.Proofs.YtbmaffijncapiaaGreatDoor
