/- Texts of this seat, laid together: LimbH, IntI, Sh, LimbI, Kn, NumR, RefA, Tz. Each opens with its own remark, which says what it proves, and under which conditions. -/
import Derived.Test.YtdllbdfchloijaaGreatDoorE04
import Derived.Test.YtdllbdfchloijaaGreatDoorE05
import Derived.Test.YtdllbdfchloijaaGreatDoorE01
import Derived.Test.YtdllbdfchloijaaGreatDoorE03
import Derived.Shelf.Small.Bits
import Derived.Shelf.Spec.TrailingZeros
import Derived.Shelf.Strings.Builder1
import Derived.Shelf.Strings.Trim
import Derived.LaidLaws
import Derived.Lib.LaidTab
set_option linter.unusedVariables false
set_option linter.unusedSimpArgs false
/- limb: Shr. -/
namespace Go.Proofs.YtdllbdfchloijaaGreatDoor
open Num
open Go.ChangeShapes Go.WideShapes Go.ChangeAt Go.RowKit
set_option linter.unusedVariables false
set_option linter.unusedSimpArgs false
namespace Num
theorem limbs_drop {l : List Nat} (h : Limbs l) (k : Nat) : Limbs (l.drop k) := fun x hx => h x (List.mem_of_mem_drop hx)
end Num
namespace Num
theorem set_fill {L : List Nat} {N i : Nat} (hL : L.length = N) (hi : i < N) : (L.take i ++ List.replicate (N - i) 0).set i (L.getD i 0) = L.take (i + 1) ++ List.replicate (N - (i + 1)) 0 := by
  have h1 : (L.take i).length = i := by rw [List.length_take]; omega
  rw [List.set_append_right _ _ (by omega), h1, Nat.sub_self, show N - i = (N - (i + 1)) + 1 from by omega, List.replicate_succ, List.set_cons_zero, List.take_succ_eq_append_getElem (by omega), List.append_assoc, show L.getD i 0 = L[i]'(by omega) from by simp [List.getD_eq_getElem?_getD, show i < L.length by omega]]
  rfl
end Num
theorem newL_nil (w : World) : NewL w (.slice none 0 0) 0 := ⟨none, 0, [], rfl, rfl, ⟨Nat.le_refl _, by unfold maxLen; omega, (fun _ h => by cases h), .inl rfl⟩, (fun h => absurd rfl h), rfl⟩

set_option maxRecDepth 100000 in
set_option maxHeartbeats 4000000 in
theorem limbShr_c (a : Option Addr) (ca : Nat) (l : List Nat) (n : Nat) (w : World) (ha : U32 w a ca l) (h1 : l.length ≤ 1099511627776) (hn : n ≤ 9223372036854775807) :
    Calls Tryz.prog 156 #[.slice a l.length ca, .int .i64 (n : Int)] w fun e w' => (∃ u, e = .returned (.tuple #[u, .int .i64 0]) ∧ NewL w' u (val l / 2 ^ n)) ∧ Below w.heap.size w w' := by
  obtain ⟨m, hm⟩ : ∃ m, m = n / 32 := ⟨_, rfl⟩
  obtain ⟨k, hk⟩ : ∃ k, k = n % 32 := ⟨_, rfl⟩
  have en1 : (n : Int) / 32 = (m : Int) := by omega
  have en2 : (n : Int) % 32 = (k : Int) := by omega
  have en3 : (n : Int).tdiv 32 = (m : Int) := by rw [Int.tdiv_eq_ediv_of_nonneg (by omega)]; exact en1
  have en4 : (n : Int).tmod 32 = (k : Int) := by rw [Int.tmod_eq_emod_of_nonneg (by omega)]; exact en2
  have hk32 : k < 32 := by omega
  have HN := Lib.hid (show 2 ^ n = BB ^ m * 2 ^ k by rw [BB_pow, ← Nat.pow_add]; congr 1; omega)
  clear hm hk
  have tc := trim_c a ca l w ha
  have ht := ha.trim
  have HV := Lib.hid (val_trim l)
  have hl1 := Nat.le_trans (trim_len l) h1
  generalize trimL l = T at *
  have hn0 : decide ((n : Int) < 0) = false := by simp
  by_cases hmT : T.length ≤ m
  · have HZ := Lib.hid (show val l / 2 ^ n = 0 by
      apply Nat.div_eq_of_lt
      rw [← HV.out, HN.out]
      have h2 := val_lt ht.2.2.1
      have h3 : BB ^ T.length ≤ BB ^ m := Nat.pow_le_pow_right BB_pos hmT
      have h4 : BB ^ m * 1 ≤ BB ^ m * 2 ^ k := Nat.mul_le_mul_left _ (Nat.pow_pos (by omega))
      omega)
    go_enter Tryz.func156, Tryz.ntmps156
    go_wp2_with fail
    refine tc.mono ?_
    rintro e w1 ⟨rfl, rfl⟩
    clear tc
    go_wp2
    go_ret2
    exact ⟨⟨_, rfl, by rw [HZ.out]; exact newL_nil _⟩, Below.refl _ _⟩
  · have hmT' : decide (T.length ≤ m) = false := by simp; omega
    rcases ht.2.2.2 with ht0 | ⟨b, off, rfl, hca⟩
    · subst ht0; simp at hmT
    have htl := ht.2.2.1
    have hd1 := limbs_drop htl m
    have HD := Lib.hid (show val (shrL k (T.drop m)) = val l / 2 ^ n by rw [shrL_val k hk32 _ hd1, val_drop htl (by omega), HV.out, HN.out, Nat.div_div_eq_div_mul])
    obtain ⟨D, hD⟩ : ∃ D, D = T.drop m := ⟨_, rfl⟩
    have hDl : D.length = T.length - m := by rw [hD, List.length_drop]
    have hcd : ∀ i, i < D.length → w.cell? ⟨b, off + m + i, none⟩ = some (.int .u32 (D.getD i 0 : Nat)) := fun i hi => by
      have := hca (m + i) (by omega)
      rw [hD, Nat.add_assoc, this]
      simp [List.getD_eq_getElem?_getD, List.getElem?_drop]
    rw [← hD] at HD hd1
    have HCD := Lib.hid hcd
    have hcap : ¬ T.length = m := by omega
    have hmk := mk32 D.length (by omega)
    have eD : ((T.length : Int) - (m : Int)) = (D.length : Int) := by omega
    have eD2 : T.length - m = D.length := hDl.symm
    have hDp : 0 < D.length := by omega
    clear hD hDl hcd HN HV
    go_enter Tryz.func156, Tryz.ntmps156
    go_wp2_with fail
    refine tc.mono ?_
    rintro e w1 ⟨rfl, rfl⟩
    clear tc
    go_wp2
    go_loopw [31] (fun x wr => ∃ (i : Nat) (O : List Nat), i ≤ D.length ∧ x = .int .i64 i ∧ Blk wr w.heap.size O ∧ Hid (O = (shrL k D).take i ++ List.replicate (D.length - i) 0) ∧ Below w.heap.size w wr) (fun x _ => D.length - (intOf x).toNat)
    case atStart => exact ⟨0, _, Nat.zero_le _, rfl, blk_new w (List.replicate D.length 0), Lib.hid (by simp), bal (Below.refl _ _) _⟩
    case round =>
      obtain ⟨i, O, hi, rfl, hO, hOe, hB⟩ := hrel
      have hol : O.length = D.length := by rw [hOe.out]; simp [shrL_len]; omega
      by_cases hlt : i < D.length
      · have c0 := bkeep hB (HCD.out i hlt)
        have hx := limb_get hd1 i
        have HG := Lib.hid (shrL_get k D i hlt)
        have q0 := hO.cell i (by omega)
        have qf := hO.frozen i
        have e1 := w64 (BB_sq _ hx)
        by_cases hl2 : i + 1 < D.length
        · have d0 := bkeep hB (HCD.out (i + 1) hl2)
          have hy := limb_get hd1 (i + 1)
          generalize D.getD i 0 = x at *
          generalize D.getD (i + 1) 0 = y at *
          have e2 := w64 (BB_sq y hy)
          have eor : bits .or .u64 (x : Int) ((y : Int) * 4294967296) = ((x + y * BB : Nat) : Int) := by
            have e : (y : Int) * 4294967296 = ((y * BB : Nat) : Int) := by rw [Int.natCast_mul]; rfl
            have h := hi_or hy hx
            have hb : y * BB < 18446744073709551616 := by unfold BB at *; omega
            rw [u64_or_nat _ _ hb (by unfold BB at hx; omega)] at h
            rw [e, u64_or_nat _ _ (by unfold BB at hx; omega) hb, Nat.or_comm, h, Nat.add_comm]
          have hyl : (y : Int) < 4294967296 := by unfold BB at hy; omega
          have hl3 : (i : Int) + 1 < (D.length : Int) := by omega
          generalize x + y * BB = t at *
          have e3 : (t : Int) / 2 ^ k = ((t / 2 ^ k : Nat) : Int) := by rw [show (2 : Int) ^ k = ((2 ^ k : Nat) : Int) by rw [Int.natCast_pow]; rfl]; rfl
          have hr2 : (shrL k D).getD i 0 = t / 2 ^ k % BB := HG.out
          have e4 : ((t / 2 ^ k : Nat) : Int) % 4294967296 = ((t / 2 ^ k % BB : Nat) : Int) := by unfold BB; omega
          generalize t / 2 ^ k = q at *
          generalize hrr : q % BB = r at *
          have HR := Lib.hid hr2
          have qb := hO.set i r
          have bs := bset hB (p := ⟨w.heap.size, i, none⟩) (Nat.le_refl _) (.int .u32 (r : Int))
          clear hr2 hrr hol HG
          go_wp2
          exact ⟨⟨i + 1, _, by omega, by go_num, qb, Lib.hid (by rw [hOe.out, ← HR.out]; exact set_fill (shrL_len k D) hlt), bs⟩, by simp [intOf] <;> omega⟩
        · have hy0 : D.getD (i + 1) 0 = 0 := by simp [hl2]
          rw [hy0, Nat.zero_mul, Nat.add_zero] at HG
          have hl3 : decide ((i : Int) + 1 < (D.length : Int)) = false := by simp; omega
          generalize D.getD i 0 = x at *
          clear hy0
          obtain ⟨t, ht2⟩ : ∃ t, t = x := ⟨_, rfl⟩
          subst ht2
          have e3 : (t : Int) / 2 ^ k = ((t / 2 ^ k : Nat) : Int) := by rw [show (2 : Int) ^ k = ((2 ^ k : Nat) : Int) by rw [Int.natCast_pow]; rfl]; rfl
          have hr2 : (shrL k D).getD i 0 = t / 2 ^ k % BB := HG.out
          have e4 : ((t / 2 ^ k : Nat) : Int) % 4294967296 = ((t / 2 ^ k % BB : Nat) : Int) := by unfold BB; omega
          generalize t / 2 ^ k = q at *
          generalize hrr : q % BB = r at *
          have HR := Lib.hid hr2
          have qb := hO.set i r
          have bs := bset hB (p := ⟨w.heap.size, i, none⟩) (Nat.le_refl _) (.int .u32 (r : Int))
          clear hr2 hrr hol HG
          go_wp2
          exact ⟨⟨i + 1, _, by omega, by go_num, qb, Lib.hid (by rw [hOe.out, ← HR.out]; exact set_fill (shrL_len k D) hlt), bs⟩, by simp [intOf] <;> omega⟩
      · obtain rfl : i = D.length := by omega
        have hLs := shrL_len k D
        have hOe2 : O = shrL k D := by rw [hOe.out, List.take_of_length_le (by omega)]; simp
        have hOL : Limbs O := by rw [hOe2]; exact shrL_limbs k D
        have HV := Lib.hid (show val O = val l / 2 ^ n by rw [hOe2]; exact HD.out)
        have hu := hO.u32 hOL (by rw [hol]; unfold maxLen; omega)
        have tc := trim_c _ _ _ _ hu
        have HT := Lib.hid (val_trim O)
        have HNr := trim_nrm O
        have hu2 := hu.trim
        generalize trimL O = T2 at *
        rw [hol] at tc
        clear hOe hOe2 hu hol hLs
        go_wp2_with fail
        refine tc.mono ?_
        rintro e w1 ⟨rfl, rfl⟩
        clear tc
        go_wp2
        go_ret2
        exact ⟨⟨_, rfl, _, _, T2, rfl, rfl, hu2, HNr, by rw [HT.out, HV.out]⟩, hB⟩
end Go.Proofs.YtdllbdfchloijaaGreatDoor

/- integer: Abs, Shl. -/
namespace Go.Proofs.YtdllbdfchloijaaGreatDoor
open Num
open Go.ChangeShapes Go.WideShapes Go.ChangeAt Go.RowKit
set_option linter.unusedVariables false
set_option linter.unusedSimpArgs false

set_option maxRecDepth 100000 in
set_option maxHeartbeats 1000000 in
theorem abs_c (vx : Value) (x : Int) (w : World) (hx : IsInt w vx x) :
    Calls Tryz.prog 140 #[vx] w fun e w' => (∃ v, e = .returned v ∧ IsInt w' v (x.natAbs : Int)) ∧ Below w.heap.size w w' := by
  obtain ⟨n1, a1, c1, l1, rfl, u1, g1, s1, rfl⟩ := hx
  have mc := fun w h => made_c false a1 c1 l1 w h g1
  rw [sg_abs]
  rw [show sg false (val l1) = (val l1 : Int) from rfl] at mc
  clear s1 g1
  unfold iv
  have hB0 := Below.refl w.heap.size w
  go_enter Tryz.func140, Tryz.ntmps140
  go_wp2_with fail
  refine (mc _ (u1.keep (by repeat (first | exact Below.refl _ _ | exact hB0 | refine Below.drew ?_ | refine below_drewN ?_ _ | refine bset ?_ (by simp <;> omega) _ | refine bal ?_ _)))).mono ?_
  rintro e w1 ⟨⟨v, rfl, hi⟩, hb1⟩
  have r0 : w1.cell? ⟨w.heap.size + 1, 0, none⟩ = some (.bool false) := bkc hb1
  have zr0 := cell_lt r0
  have r0f : w1.frozen? ⟨w.heap.size + 1, 0, none⟩ = false := bkcf (v := .bool false) hb1
  have r1 : w1.cell? ⟨w.heap.size + 1, 1, none⟩ = some (.slice none 0 0) := bkc hb1
  have r1f : w1.frozen? ⟨w.heap.size + 1, 1, none⟩ = false := bkcf (v := .slice none 0 0) hb1
  have hB : Below w.heap.size w w1 := bthen (by repeat (first | exact Below.refl _ _ | exact hB | refine Below.drew ?_ | refine below_drewN ?_ _ | refine bset ?_ (by simp <;> omega) _ | refine bal ?_ _)) hb1
  have hz : w.heap.size ≤ w1.heap.size := hB.size
  have HI2 := Lib.hid (hi.put2 r0 r1)
  obtain ⟨n4, a4, c4, l4, rfl, _, _, _, _⟩ := hi
  unfold iv at *
  go_wp2
  refine bodyPost_ret (v := .agg #[.bool n4, .slice a4 l4.length c4]) (by simp [results, Tryz.results140, go_sem, *]) rfl ⟨⟨_, rfl, HI2.out _ _⟩, ?_⟩
  repeat (first | exact Below.refl _ _ | exact hB | refine Below.drew ?_ | refine below_drewN ?_ _ | refine bset ?_ (by simp <;> omega) _ | refine bal ?_ _)

namespace Num
theorem sg_times (s : Bool) (m p : Nat) : sg s (m * p) = sg s m * (p : Int) := by cases s <;> simp [sg, Int.neg_mul]
end Num
set_option maxRecDepth 100000 in
set_option maxHeartbeats 1000000 in
theorem shlI_c (vx : Value) (x : Int) (k n : Nat) (w : World) (hx : IsInt w vx x) (bx : Bd k x) (hk : k ≤ 17179869184) (hn : n ≤ 65536) :
    Calls Tryz.prog 152 #[vx, .int .i64 (n : Int)] w fun e w' => (∃ v, e = .returned (.tuple #[v, .int .i64 0]) ∧ IsInt w' v (x * 2 ^ n)) ∧ Below w.heap.size w w' := by
  obtain ⟨n1, a1, c1, l1, rfl, u1, g1, s1, rfl⟩ := hx
  have k1 := bd_len g1 (sg_bd bx) hk
  have lc := fun w h => limbShl_c a1 c1 l1 n w h (by omega) hn
  have dc := fun a L w h hn => made_c n1 a (List.length L) L w h hn
  have HS := Lib.hid (show sg n1 (val l1 * 2 ^ n) = sg n1 (val l1) * 2 ^ n by rw [sg_times, Int.natCast_pow]; rfl)
  clear bx g1 s1
  unfold iv
  have hB0 := Below.refl w.heap.size w
  go_enter Tryz.func152, Tryz.ntmps152
  go_wp2_with fail
  refine (lc _ (u1.keep (by repeat (first | exact Below.refl _ _ | exact hB0 | refine Below.drew ?_ | refine below_drewN ?_ _ | refine bset ?_ (by simp <;> omega) _ | refine bal ?_ _)))).mono ?_
  rintro e w1 ⟨⟨u3, rfl, a3, k3, L, rfl, rfl, hu, hnr, hv⟩, hb1⟩
  have x0 : w1.cell? ⟨w.heap.size, 0, none⟩ = some (.bool n1) := bkc hb1
  have zx0 := cell_lt x0
  have x1 : w1.cell? ⟨w.heap.size, 1, none⟩ = some (.slice a1 l1.length c1) := bkc hb1
  have r0 : w1.cell? ⟨w.heap.size + 1, 0, none⟩ = some (.bool false) := bkc hb1
  have zr0 := cell_lt r0
  have r0f : w1.frozen? ⟨w.heap.size + 1, 0, none⟩ = false := bkcf (v := .bool false) hb1
  have r1 : w1.cell? ⟨w.heap.size + 1, 1, none⟩ = some (.slice none 0 0) := bkc hb1
  have r1f : w1.frozen? ⟨w.heap.size + 1, 1, none⟩ = false := bkcf (v := .slice none 0 0) hb1
  have hB : Below w.heap.size w w1 := bthen (by repeat (first | exact Below.refl _ _ | exact hB | refine Below.drew ?_ | refine below_drewN ?_ _ | refine bset ?_ (by simp <;> omega) _ | refine bal ?_ _)) hb1
  have hz : w.heap.size ≤ w1.heap.size := hB.size
  go_wp2_with fail
  refine (dc _ _ _ hu hnr).mono ?_
  rintro e w2 ⟨⟨v, rfl, hi⟩, hb2⟩
  have x0 : w2.cell? ⟨w.heap.size, 0, none⟩ = some (.bool n1) := bkc hb2
  have zx0 := cell_lt x0
  have x1 : w2.cell? ⟨w.heap.size, 1, none⟩ = some (.slice a1 l1.length c1) := bkc hb2
  have r0 : w2.cell? ⟨w.heap.size + 1, 0, none⟩ = some (.bool false) := bkc hb2
  have zr0 := cell_lt r0
  have r0f : w2.frozen? ⟨w.heap.size + 1, 0, none⟩ = false := bkcf (v := .bool false) hb2
  have r1 : w2.cell? ⟨w.heap.size + 1, 1, none⟩ = some (.slice none 0 0) := bkc hb2
  have r1f : w2.frozen? ⟨w.heap.size + 1, 1, none⟩ = false := bkcf (v := .slice none 0 0) hb2
  have hB : Below w.heap.size w w2 := bthen (by repeat (first | exact Below.refl _ _ | exact hB | refine Below.drew ?_ | refine below_drewN ?_ _ | refine bset ?_ (by simp <;> omega) _ | refine bal ?_ _)) hb2
  have hz : w.heap.size ≤ w2.heap.size := hB.size
  rw [hv, HS.out] at hi
  have HI2 := Lib.hid (hi.put2 r0 r1)
  obtain ⟨n4, a4, c4, l4, rfl, _, _, _, _⟩ := hi
  unfold iv at *
  go_wp2
  refine bodyPost_ret (v := .tuple #[.agg #[.bool n4, .slice a4 l4.length c4], .int .i64 0]) (by simp [results, Tryz.results152, go_sem, *]) rfl ⟨⟨_, rfl, HI2.out _ _⟩, ?_⟩
  repeat (first | exact Below.refl _ _ | exact hB | refine Below.drew ?_ | refine below_drewN ?_ _ | refine bset ?_ (by simp <;> omega) _ | refine bal ?_ _)
end Go.Proofs.YtdllbdfchloijaaGreatDoor

/- Contracts of Go's library, laid from the shelf (printed by wip/bin/mk_sh.sh): math/bits, strings.Builder, strings.TrimLeft. -/
namespace Go.Proofs.YtdllbdfchloijaaGreatDoor
open Num
open Go.ChangeShapes Go.WideShapes Go.ChangeAt Go.RowKit
set_option linter.unusedVariables false
def sh_lays169_ren : Go.Shelf.Ren := ⟨fun | 169 => 137 | n => n, fun | 70 => 187 | 9 => 9 | 0 => 0 | 72 => 189 | 37 => 100 | 127 => 213 | 3 => 3 | 5 => 5 | n => n, fun | n => n⟩
theorem sh_lays169 : Go.Proofs.Lays.n169 Tryz.prog sh_lays169_ren := {
  mixed := by kernel_rfl
  f169 := Tryz.func137.trans (congrArg some (by kernel_rfl))
  t0 := Tryz.underlying0
  a0 := Tryz.isAgg0
  z0 := Tryz.sizeOf0
  v0 := Tryz.zeroValue0
  t3 := Tryz.underlying3
  a3 := Tryz.isAgg3
  z3 := Tryz.sizeOf3
  v3 := Tryz.zeroValue3
  t9 := Tryz.underlying9
  a9 := Tryz.isAgg9
  z9 := Tryz.sizeOf9
  v9 := Tryz.zeroValue9
  t37 := Tryz.underlying100
  a37 := Tryz.isAgg100
  z37 := Tryz.sizeOf100
  v37 := Tryz.zeroValue100
  t70 := Tryz.underlying187
  a70 := Tryz.isAgg187
  z70 := Tryz.sizeOf187
  v70 := Tryz.zeroValue187
  t72 := Tryz.underlying189
  a72 := Tryz.isAgg189
  z72 := Tryz.sizeOf189
  v72 := Tryz.zeroValue189
  t127 := Tryz.underlying213
  a127 := Tryz.isAgg213
  z127 := Tryz.sizeOf213
  v127 := Tryz.zeroValue213 }
theorem sh_Builder_Extra_169 : Go.Proofs.Builder.Extra Tryz.prog sh_lays169_ren := {
  sizeBuilder := by kernel_rfl
  liesBuilder := by kernel_rfl
  t5 := Tryz.underlying5
  a5 := Tryz.isAgg5
  z5 := Tryz.sizeOf5
  v5 := Tryz.zeroValue5
  infoByte := by kernel_rfl
  cellsByte := by kernel_rfl
  sizeByte := by kernel_rfl
  neB5 := by decide }
def sh_lays161_ren : Go.Shelf.Ren := ⟨fun | 161 => 135 | 231 => 147 | 227 => 148 | 233 => 149 | 235 => 150 | 228 => 159 | 197 => 160 | 151 => 161 | 260 => 168 | 152 => 169 | 137 => 171 | 119 => 172 | 224 => 173 | 225 => 174 | 217 => 175 | 266 => 176 | n => n, fun | 9 => 9 | 4 => 4 | 3 => 3 | 5 => 5 | 117 => 209 | 116 => 208 | 0 => 0 | 124 => 212 | 105 => 221 | 21 => 21 | 119 => 230 | 46 => 129 | 139 => 233 | 138 => 232 | n => n, fun | 3 => 2 | 4 => 3 | n => n⟩
theorem sh_lays161 : Go.Proofs.Lays.n161 Tryz.prog sh_lays161_ren := {
  mixed := by kernel_rfl
  f119 := Tryz.func172.trans (congrArg some (by kernel_rfl))
  f137 := Tryz.func171.trans (congrArg some (by kernel_rfl))
  f151 := Tryz.func161.trans (congrArg some (by kernel_rfl))
  f152 := Tryz.func169.trans (congrArg some (by kernel_rfl))
  f161 := Tryz.func135.trans (congrArg some (by kernel_rfl))
  f197 := Tryz.func160.trans (congrArg some (by kernel_rfl))
  f217 := Tryz.func175.trans (congrArg some (by kernel_rfl))
  f224 := Tryz.func173.trans (congrArg some (by kernel_rfl))
  f225 := Tryz.func174.trans (congrArg some (by kernel_rfl))
  f227 := Tryz.func148.trans (congrArg some (by kernel_rfl))
  f228 := Tryz.func159.trans (congrArg some (by kernel_rfl))
  f231 := Tryz.func147.trans (congrArg some (by kernel_rfl))
  f233 := Tryz.func149.trans (congrArg some (by kernel_rfl))
  f235 := Tryz.func150.trans (congrArg some (by kernel_rfl))
  f260 := Tryz.func168.trans (congrArg some (by kernel_rfl))
  f266 := Tryz.func176.trans (congrArg some (by kernel_rfl))
  t0 := Tryz.underlying0
  a0 := Tryz.isAgg0
  z0 := Tryz.sizeOf0
  v0 := Tryz.zeroValue0
  t3 := Tryz.underlying3
  a3 := Tryz.isAgg3
  z3 := Tryz.sizeOf3
  v3 := Tryz.zeroValue3
  t4 := Tryz.underlying4
  a4 := Tryz.isAgg4
  z4 := Tryz.sizeOf4
  v4 := Tryz.zeroValue4
  t5 := Tryz.underlying5
  a5 := Tryz.isAgg5
  z5 := Tryz.sizeOf5
  v5 := Tryz.zeroValue5
  t9 := Tryz.underlying9
  a9 := Tryz.isAgg9
  z9 := Tryz.sizeOf9
  v9 := Tryz.zeroValue9
  t21 := Tryz.underlying21
  a21 := Tryz.isAgg21
  z21 := Tryz.sizeOf21
  v21 := Tryz.zeroValue21
  t46 := Tryz.underlying129
  a46 := Tryz.isAgg129
  z46 := Tryz.sizeOf129
  v46 := Tryz.zeroValue129
  t105 := Tryz.underlying221
  a105 := Tryz.isAgg221
  z105 := Tryz.sizeOf221
  v105 := Tryz.zeroValue221
  t116 := Tryz.underlying208
  a116 := Tryz.isAgg208
  z116 := Tryz.sizeOf208
  t117 := Tryz.underlying209
  a117 := Tryz.isAgg209
  z117 := Tryz.sizeOf209
  v117 := Tryz.zeroValue209
  t119 := Tryz.underlying230
  a119 := Tryz.isAgg230
  z119 := Tryz.sizeOf230
  t124 := Tryz.underlying212
  a124 := Tryz.isAgg212
  z124 := Tryz.sizeOf212
  v124 := Tryz.zeroValue212
  t138 := Tryz.underlying232
  a138 := Tryz.isAgg232
  z138 := Tryz.sizeOf232
  v138 := Tryz.zeroValue232
  t139 := Tryz.underlying233
  a139 := Tryz.isAgg233
  z139 := Tryz.sizeOf233
  v139 := Tryz.zeroValue233
  g3 := by kernel_rfl
  g4 := by kernel_rfl }
def sh_lays133_ren : Go.Shelf.Ren := ⟨fun | 133 => 153 | 128 => 163 | n => n, fun | 51 => 106 | 3 => 3 | 4 => 4 | 46 => 129 | 5 => 5 | 9 => 9 | n => n, fun | n => n⟩
theorem sh_lays133 : Go.Proofs.Lays.n133 Tryz.prog sh_lays133_ren := {
  mixed := by kernel_rfl
  f128 := Tryz.func163.trans (congrArg some (by kernel_rfl))
  f133 := Tryz.func153.trans (congrArg some (by kernel_rfl))
  t3 := Tryz.underlying3
  a3 := Tryz.isAgg3
  z3 := Tryz.sizeOf3
  v3 := Tryz.zeroValue3
  t4 := Tryz.underlying4
  a4 := Tryz.isAgg4
  z4 := Tryz.sizeOf4
  v4 := Tryz.zeroValue4
  t5 := Tryz.underlying5
  a5 := Tryz.isAgg5
  z5 := Tryz.sizeOf5
  v5 := Tryz.zeroValue5
  t9 := Tryz.underlying9
  a9 := Tryz.isAgg9
  z9 := Tryz.sizeOf9
  v9 := Tryz.zeroValue9
  t46 := Tryz.underlying129
  a46 := Tryz.isAgg129
  z46 := Tryz.sizeOf129
  v46 := Tryz.zeroValue129
  t51 := Tryz.underlying106
  a51 := Tryz.isAgg106
  z51 := Tryz.sizeOf106
  v51 := Tryz.zeroValue106 }

def sh_lays166_ren : Go.Shelf.Ren := ⟨fun | 166 => 136 | 240 => 151 | 276 => 162 | n => n, fun | 0 => 0 | 3 => 3 | 4 => 4 | 5 => 5 | 9 => 9 | 20 => 20 | 37 => 100 | 70 => 187 | 72 => 189 | 75 => 193 | 80 => 51 | 164 => 224 | n => n, fun n => n⟩
theorem sh_lays166 : Go.Proofs.Lays.n166 Tryz.prog sh_lays166_ren := {
  mixed := by kernel_rfl
  f166 := Tryz.func136.trans (congrArg some (by kernel_rfl))
  f240 := Tryz.func151.trans (congrArg some (by kernel_rfl))
  f276 := Tryz.func162.trans (congrArg some (by kernel_rfl))
  t0 := Tryz.underlying0
  a0 := Tryz.isAgg0
  z0 := Tryz.sizeOf0
  v0 := Tryz.zeroValue0
  t3 := Tryz.underlying3
  a3 := Tryz.isAgg3
  z3 := Tryz.sizeOf3
  v3 := Tryz.zeroValue3
  t4 := Tryz.underlying4
  a4 := Tryz.isAgg4
  z4 := Tryz.sizeOf4
  v4 := Tryz.zeroValue4
  t9 := Tryz.underlying9
  a9 := Tryz.isAgg9
  z9 := Tryz.sizeOf9
  v9 := Tryz.zeroValue9
  t20 := Tryz.underlying20
  a20 := Tryz.isAgg20
  z20 := Tryz.sizeOf20
  v20 := Tryz.zeroValue20
  t37 := Tryz.underlying100
  a37 := Tryz.isAgg100
  z37 := Tryz.sizeOf100
  v37 := Tryz.zeroValue100
  t70 := Tryz.underlying187
  a70 := Tryz.isAgg187
  z70 := Tryz.sizeOf187
  v70 := Tryz.zeroValue187
  t72 := Tryz.underlying189
  a72 := Tryz.isAgg189
  z72 := Tryz.sizeOf189
  v72 := Tryz.zeroValue189
  t75 := Tryz.underlying193
  a75 := Tryz.isAgg193
  z75 := Tryz.sizeOf193
  v75 := Tryz.zeroValue193
  t164 := Tryz.underlying224
  a164 := Tryz.isAgg224
  z164 := Tryz.sizeOf224
  v164 := Tryz.zeroValue224 }
theorem sh_Builder_Extra_166 : Go.Proofs.Builder.Extra Tryz.prog sh_lays166_ren := {
  sizeBuilder := by kernel_rfl
  liesBuilder := by kernel_rfl
  t5 := Tryz.underlying5
  a5 := Tryz.isAgg5
  z5 := Tryz.sizeOf5
  v5 := Tryz.zeroValue5
  infoByte := by kernel_rfl
  cellsByte := by kernel_rfl
  sizeByte := by kernel_rfl
  neB5 := by decide }

theorem lz32_c (x : Nat) (w : World) (h : x < BB) :
    Calls Tryz.prog 153 #[.int .u32 (x : Int)] w fun e w' => e = .returned (.int .i64 (32 - (bitN x : Int))) ∧ w = w' := by
  unfold BB at h
  have := Go.Proofs.Any.bits_LeadingZeros32 sh_lays133 (x : Int) w (by omega) (by omega)
  rw [Int.toNat_natCast, bitLen_eq x (by omega)] at this
  refine this.mono ?_
  rintro e w' ⟨rfl, rfl⟩
  exact ⟨rfl, rfl⟩
/-- the library's table of trailing noughts lies there -/
def Tz32 (w : World) : Prop := TabAt 0 Lib.deBruijn32tab w
theorem Tz32.keep {w w' : World} (h : Tz32 w) (hb : Below w.heap.size w w') : Tz32 w' := fun j hj => bkeep hb (h j hj)
/-- a builder of the call's own that holds the bytes l -/
def Bld (B b : Nat) (l : List UInt8) (w : World) : Prop := Lib.IsBuilder 189 5 B b (Lib.byteCells l) w
theorem bytes_str (s : ByteArray) : Lib.strCells s = Lib.byteCells s.data.toList := rfl
theorem bytes_app (l m : List UInt8) : Lib.byteCells (l ++ m) = Lib.byteCells l ++ Lib.byteCells m := by simp [Lib.byteCells]
theorem bwrite_c (B b : Nat) (l : List UInt8) (s : ByteArray) (w : World) (h : Bld B b l w) (hlen : l.length + s.size ≤ 1099511627776) (hB : B ≤ w.heap.size) :
    Calls Tryz.prog 136 #[.pointer (some ⟨b, 0, none⟩), .string s] w fun e w' => e = .returned (.tuple #[.int .i64 s.size, .nilIface]) ∧ Bld B b (l ++ s.data.toList) w' ∧ Below B w w' := by
  refine (Go.Proofs.Any.Builder_WriteString sh_lays166 sh_Builder_Extra_166 B b (Lib.byteCells l) s w h (by rw [Lib.byteCells_length]; omega) hB).mono ?_
  rintro e w' ⟨rfl, h1, h2⟩
  refine ⟨rfl, ?_, h2⟩
  unfold Bld
  rw [bytes_app, ← bytes_str]
  exact .inr h1
theorem bstring_c (B b : Nat) (l : List UInt8) (w : World) (h : Bld B b l w) (hB : B ≤ w.heap.size) :
    Calls Tryz.prog 137 #[.pointer (some ⟨b, 0, none⟩)] w fun e w' => e = .returned (.string ⟨l.toArray⟩) ∧ Below B w w' :=
  Go.Proofs.Any.Builder_String_any sh_lays169 sh_Builder_Extra_169 B b l w h hB
theorem trimLeft_c (s : ByteArray) (w : World) :
    Calls Tryz.prog 135 #[.string s, .string ⟨#[48]⟩] w fun e w' => e = .returned (.string ⟨(Lib.trimLeftB s.data.toList 48).toArray⟩) ∧ w = w' := by
  refine (Go.Proofs.Any.strings_TrimLeft_one sh_lays161 s 48 (by decide) w).mono ?_
  rintro e w' ⟨rfl, rfl⟩
  exact ⟨rfl, rfl⟩
end Go.Proofs.YtdllbdfchloijaaGreatDoor

/- math/bits.TrailingZeros32, limb: Twos. -/
namespace Go.Proofs.YtdllbdfchloijaaGreatDoor
open Num
open Go.ChangeShapes Go.WideShapes Go.ChangeAt Go.RowKit
set_option linter.unusedVariables false
set_option linter.unusedSimpArgs false

namespace Num
end Num

end Go.Proofs.YtdllbdfchloijaaGreatDoor

/- Plain: long division, limb by limb. -/
namespace Go.Proofs.YtdllbdfchloijaaGreatDoor.Num
/-- i limbs of a list, from the k-th on -/
def win (U : List Nat) (k i : Nat) : Nat := val ((U.drop k).take i)
theorem take_any (l : List Nat) (k : Nat) : val (l.take (k + 1)) = val (l.take k) + l.getD k 0 * BB ^ k := by
  by_cases h : k < l.length
  · exact val_take_succ h
  · rw [List.take_of_length_le (by omega), List.take_of_length_le (by omega)]; simp [show l.length ≤ k by omega]
theorem win_zero (U : List Nat) (k : Nat) : win U k 0 = 0 := by simp [win, val]
theorem win_succ {U : List Nat} {k i : Nat} (h : k + i < U.length) : win U k (i + 1) = win U k i + U.getD (k + i) 0 * BB ^ i := by
  unfold win
  rw [val_take_succ (by simp; omega)]
  simp [List.getElem?_drop]
theorem win_set {U : List Nat} {k i j x : Nat} (h : j < k ∨ k + i ≤ j) : win (U.set j x) k i = win U k i := by
  unfold win
  congr 1
  apply List.ext_getElem?
  intro m
  simp only [List.getElem?_take, List.getElem?_drop, List.getElem?_set]
  by_cases hm : m < i
  · rw [if_pos hm, if_neg (by omega)]; simp [hm]
  · simp [hm]
theorem win_lt {U : List Nat} (h : Limbs U) (k i : Nat) : win U k i < BB ^ i := by
  unfold win
  refine Nat.lt_of_lt_of_le (val_lt (fun x hx => h x (List.mem_of_mem_drop (List.mem_of_mem_take hx)))) (Nat.pow_le_pow_right BB_pos ?_)
  simp; omega
theorem win_set_succ {U : List Nat} {k i x : Nat} (h : k + i < U.length) : win (U.set (k + i) x) k (i + 1) = win U k i + x * BB ^ i := by
  rw [win_succ (by simpa using h), win_set (.inr (Nat.le_refl _))]
  simp [h]
theorem getD_set_far {l : List Nat} {i j x : Nat} (h : i ≠ j) : (l.set i x).getD j 0 = l.getD j 0 := getD_set_ne h
/-- v, so many times, is taken: one limb -/
theorem less_arith {W V W0 c b P vi t ui m c1 r b1 B : Nat} (h : W + V * t = W0 + (c + b) * P) (hc : c + vi * t = c1 * B + m) (hr : r + m + b = ui + b1 * B) :
    W + r * P + (V + vi * P) * t = W0 + ui * P + (c1 + b1) * (B * P) := by
  have e1 : (V + vi * P) * t = V * t + vi * t * P := by rw [Nat.add_mul]; congr 1; ac_rfl
  have e2 : (c1 + b1) * (B * P) = c1 * B * P + b1 * B * P := by rw [Nat.add_mul]; congr 1 <;> ac_rfl
  have e3 : c * P + vi * t * P = c1 * B * P + m * P := by rw [← Nat.add_mul, hc, Nat.add_mul]
  have e4 : r * P + m * P + b * P = ui * P + b1 * B * P := by rw [← Nat.add_mul, ← Nat.add_mul, hr, Nat.add_mul]
  have e5 : (c + b) * P = c * P + b * P := Nat.add_mul _ _ _
  rw [e1, e2]
  omega
theorem back_arith {W V W1 c P vi ui c1 r B : Nat} (h : W + c * P = W1 + V) (hc : c + ui + vi = c1 * B + r) :
    W + r * P + c1 * (B * P) = W1 + ui * P + (V + vi * P) := by
  have e1 : c * P + ui * P + vi * P = c1 * (B * P) + r * P := by
    rw [← Nat.add_mul, ← Nat.add_mul, hc, Nat.add_mul]; congr 1; ac_rfl
  omega
/-- a list's value, by its two highest limbs -/
theorem top_two {v : List Nat} {n : Nat} (h : v.length = n + 2) : val v = v.getD (n + 1) 0 * BB ^ (n + 1) + v.getD n 0 * BB ^ n + val (v.take n) := by
  have h1 := val_take_succ (l := v) (k := n + 1) (by omega)
  have h2 := val_take_succ (l := v) (k := n) (by omega)
  rw [List.take_of_length_le (by omega)] at h1
  omega
theorem win_top {U : List Nat} {k n : Nat} (h : k + (n + 3) ≤ U.length) : win U k (n + 3) = (U.getD (k + (n + 2)) 0 * BB + U.getD (k + (n + 1)) 0) * BB ^ (n + 1) + U.getD (k + n) 0 * BB ^ n + win U k n := by
  rw [win_succ (by omega), win_succ (by omega), win_succ (by omega)]
  have : BB ^ (n + 2) = BB * BB ^ (n + 1) := by rw [Nat.pow_succ BB (n + 1), Nat.mul_comm]
  rw [this, Nat.add_mul]
  have : U.getD (k + (n + 2)) 0 * (BB * BB ^ (n + 1)) = U.getD (k + (n + 2)) 0 * BB * BB ^ (n + 1) := by ac_rfl
  omega
section
variable {N D v1 v2 low high u2 lowN P1 P2 B g r : Nat}
theorem kn_first (hP : 0 < P1) (hD : v1 * P1 ≤ D) (hN : N < (high + 1) * P1) (hD0 : 0 < D) (hv : 0 < v1) : N / D ≤ high / v1 := by
  rw [Nat.le_div_iff_mul_le hv]
  have h1 : N / D * D ≤ N := Nat.div_mul_le_self N D
  have h2 : N / D * (v1 * P1) ≤ N / D * D := Nat.mul_le_mul (Nat.le_refl _) hD
  have h3 : N / D * v1 * P1 < (high + 1) * P1 := by rw [Nat.mul_assoc]; omega
  have := Nat.lt_of_mul_lt_mul_right h3
  omega
theorem kn_big (h : N < D * B) : N / D < B := Nat.div_lt_of_lt_mul h
theorem kn_step (hP : 0 < P2) (hD0 : 0 < D) (hD : D = v1 * (B * P2) + v2 * P2 + low) (hN : N = high * (B * P2) + u2 * P2 + lowN) (hlN : lowN < P2) (hg : g * v1 + r = high) (ht : r * B + u2 < g * v2) : N / D < g := by
  rw [Nat.div_lt_iff_lt_mul hD0, hN, hD]
  have e1 : g * (v1 * (B * P2) + v2 * P2 + low) = g * v1 * (B * P2) + g * v2 * P2 + g * low := by
    rw [Nat.mul_add, Nat.mul_add]; congr 1; congr 1 <;> ac_rfl
  have e2 : high * (B * P2) = g * v1 * (B * P2) + r * B * P2 := by rw [← hg, Nat.add_mul]; congr 1; ac_rfl
  have e3 : (r * B + u2 + 1) * P2 ≤ g * v2 * P2 := Nat.mul_le_mul ht (Nat.le_refl _)
  have e4 : (r * B + u2 + 1) * P2 = r * B * P2 + u2 * P2 + P2 := by rw [Nat.add_mul, Nat.add_mul]; omega
  omega
theorem kn_exit (hv1 : 0 < v1) (hB : 0 < B) (hgB : g < B) (hlow : low < P2) (hD : D = v1 * (B * P2) + v2 * P2 + low) (hN : N = high * (B * P2) + u2 * P2 + lowN) (hg : g * v1 + r = high) (ht : g * v2 ≤ r * B + u2) : g * D < N + D := by
  have e1 : g * D = g * v1 * (B * P2) + g * v2 * P2 + g * low := by
    rw [hD, Nat.mul_add, Nat.mul_add]; congr 1; congr 1 <;> ac_rfl
  have e2 : high * (B * P2) = g * v1 * (B * P2) + r * B * P2 := by rw [← hg, Nat.add_mul]; congr 1; ac_rfl
  have e3 : g * v2 * P2 ≤ (r * B + u2) * P2 := Nat.mul_le_mul ht (Nat.le_refl _)
  have e4 : (r * B + u2) * P2 = r * B * P2 + u2 * P2 := Nat.add_mul _ _ _
  have e5 : g * low < B * P2 := Nat.mul_lt_mul'' hgB hlow
  have e6 : B * P2 ≤ v1 * (B * P2) := Nat.le_mul_of_pos_left _ hv1
  omega
theorem kn_far (hlow : v2 * P2 + low < B * P2) (hD : D = v1 * (B * P2) + v2 * P2 + low) (hN : N = high * (B * P2) + u2 * P2 + lowN) (hg : g * v1 + r = high) (hr : g ≤ r) : g * D ≤ N := by
  have e1 : D ≤ (v1 + 1) * (B * P2) := by rw [Nat.add_mul]; omega
  have e2 : g * D ≤ g * ((v1 + 1) * (B * P2)) := Nat.mul_le_mul (Nat.le_refl _) e1
  have e3 : g * ((v1 + 1) * (B * P2)) = (g * v1 + g) * (B * P2) := by rw [← Nat.mul_assoc, Nat.mul_add, Nat.mul_one]
  have e4 : (g * v1 + g) * (B * P2) ≤ high * (B * P2) := Nat.mul_le_mul (by omega) (Nat.le_refl _)
  omega
end
theorem low_two {v2 low P2 B : Nat} (h2 : v2 < B) (hl : low < P2) : v2 * P2 + low < B * P2 := by
  have : (v2 + 1) * P2 ≤ B * P2 := Nat.mul_le_mul h2 (Nat.le_refl _)
  rw [Nat.add_mul] at this
  omega
theorem kn_done {N D g W : Nat} (hD : 0 < D) (hq : N / D ≤ g) (h : W + D * g = N) : N / D = g ∧ N % D = W := by
  have h1 : g ≤ N / D := by rw [Nat.le_div_iff_mul_le hD, Nat.mul_comm]; omega
  have h2 : N / D = g := by omega
  refine ⟨h2, ?_⟩
  have := Nat.div_add_mod N D
  rw [h2] at this
  omega
theorem kn_over {N D g W P : Nat} (hD : 0 < D) (hg : g * D < N + D) (hW : W < P) (h : W + D * g = N + P) : g = N / D + 1 ∧ W + D = N % D + P := by
  have e : D * g = g * D := Nat.mul_comm _ _
  have h1 : N < g * D := by omega
  have h2 : N / D < g := (Nat.div_lt_iff_lt_mul hD).2 h1
  have h3 : g ≤ N / D + 1 := by
    apply Nat.le_of_not_lt
    intro hlt
    have : (N / D + 2) * D ≤ g * D := Nat.mul_le_mul hlt (Nat.le_refl _)
    have h4 := Nat.lt_div_mul_add (a := N) hD
    rw [Nat.add_mul] at this
    omega
  have hq : g = N / D + 1 := by omega
  refine ⟨hq, ?_⟩
  have := Nat.div_add_mod N D
  rw [hq, Nat.mul_add, Nat.mul_one] at h
  omega
theorem kn_back {R W P c : Nat} (hR : R < P) (hW : W < P) (h : W + c * P = R + P) : W = R := by
  rcases Nat.lt_or_ge c 1 with h0 | h0
  · obtain rfl : c = 0 := by omega
    omega
  · rcases Nat.lt_or_ge 1 c with h1 | h1
    · have : 2 * P ≤ c * P := Nat.mul_le_mul h1 (Nat.le_refl _)
      omega
    · obtain rfl : c = 1 := by omega
      omega
theorem val_cut {U : List Nat} {k : Nat} (h : k ≤ U.length) : val U = val (U.take k) + BB ^ k * val (U.drop k) := by
  conv => lhs; rw [← List.take_append_drop k U]
  rw [val_append, List.length_take, Nat.min_eq_left h]
end Go.Proofs.YtdllbdfchloijaaGreatDoor.Num

/- Plain laws: numbers as lists of digits to the base 65536, low one first. (Printed by wip/bin/mk_numr.py.) -/
namespace Go.Proofs.YtdllbdfchloijaaGreatDoor.NumR
open Num (Nrm trimL trimL_append_zero trimL_append_pos trimL_nil list_snoc_ind trim_prefix trim_len trim_nrm trim_of_nrm trim_take)

/-- the base -/
def BB : Nat := 65536
theorem BB_pos : 0 < BB := by unfold BB; omega
/-- what a list of limbs stands for -/
def val : List Nat → Nat
  | [] => 0
  | x :: l => x + BB * val l
/-- every limb is one -/
def Limbs (l : List Nat) : Prop := ∀ x ∈ l, x < BB
theorem val_append (l m : List Nat) : val (l ++ m) = val l + BB ^ l.length * val m := by
  induction l with
  | nil => simp [val]
  | cons x l ih =>
    simp only [val, List.cons_append, ih, List.length_cons, Nat.pow_succ, Nat.mul_add, Nat.add_assoc]
    congr 2
    rw [← Nat.mul_assoc, Nat.mul_comm BB]
theorem val_lt {l : List Nat} (h : Limbs l) : val l < BB ^ l.length := by
  induction l with
  | nil => simp [val]
  | cons x l ih =>
    have h1 := ih (fun y hy => h y (by simp [hy]))
    have h2 := h x (by simp)
    simp only [val, List.length_cons, Nat.pow_succ]
    have h3 : val l + 1 ≤ BB ^ l.length := h1
    have h4 := Nat.mul_le_mul_left BB h3
    rw [Nat.mul_add] at h4
    rw [Nat.mul_comm (BB ^ l.length) BB]
    omega
theorem val_zeros (n : Nat) : val (List.replicate n 0) = 0 := by
  induction n with
  | zero => rfl
  | succ n ih => simp [List.replicate_succ, val, ih]
theorem val_trim (l : List Nat) : val (trimL l) = val l := by
  induction l using list_snoc_ind with
  | h0 => rfl
  | h1 l x ih =>
    by_cases hx : x = 0
    · subst hx; rw [trimL_append_zero, ih, val_append]; simp [val]
    · rw [trimL_append_pos l x hx]
theorem trim_limbs {l : List Nat} (h : Limbs l) : Limbs (trimL l) := fun x hx => h x ((trim_prefix l).subset hx)
theorem nrm_val_pos {l : List Nat} (h : Nrm l) (hn : l ≠ []) : BB ^ (l.length - 1) ≤ val l := by
  obtain ⟨m, x, rfl⟩ : ∃ m x, l = m ++ [x] := ⟨l.dropLast, l.getLast hn, (List.dropLast_concat_getLast hn).symm⟩
  have hx := h hn
  simp at hx
  rw [val_append]
  simp [val]
  have : BB ^ m.length * 1 ≤ BB ^ m.length * x := Nat.mul_le_mul_left _ (by omega)
  omega
theorem val_set {l : List Nat} {k : Nat} (x : Nat) (hk : k < l.length) : val (l.set k x) + l.getD k 0 * BB ^ k = val l + x * BB ^ k := by
  induction l generalizing k with
  | nil => simp at hk
  | cons y l ih =>
    cases k with
    | zero => simp [val]; omega
    | succ k =>
      have := ih (k := k) (by simpa using hk)
      simp only [List.set_cons_succ, val, List.getD_cons_succ, Nat.pow_succ]
      have e := congrArg (BB * ·) this
      simp only [Nat.mul_add] at e
      have c1 : ∀ z : Nat, z * (BB ^ k * BB) = BB * (z * BB ^ k) := fun z => by rw [← Nat.mul_assoc, Nat.mul_comm]
      rw [c1, c1]
      omega
theorem limbs_set {l : List Nat} {k x : Nat} (h : Limbs l) (hx : x < BB) : Limbs (l.set k x) := by
  intro y hy
  rcases List.mem_or_eq_of_mem_set hy with h1 | rfl
  · exact h y h1
  · exact hx
theorem limb_get {l : List Nat} (h : Limbs l) (k : Nat) : l.getD k 0 < BB := by
  by_cases hk : k < l.length
  · simp only [List.getD_eq_getElem?_getD, List.getElem?_eq_getElem hk, Option.getD_some]; exact h _ (List.getElem_mem hk)
  · simp [hk, BB_pos, Nat.le_of_not_lt hk]
theorem val_take_succ {l : List Nat} {k : Nat} (hk : k < l.length) : val (l.take (k + 1)) = val (l.take k) + l.getD k 0 * BB ^ k := by
  rw [List.take_succ_eq_append_getElem hk, val_append]
  simp [val, hk, Nat.min_eq_left (Nat.le_of_lt hk), Nat.mul_comm]
theorem val_split {l : List Nat} {k : Nat} (hk : k < l.length) : val l = val (l.take k) + BB ^ k * (l.getD k 0 + BB * val (l.drop (k + 1))) := by
  have e : l = l.take k ++ (l.getD k 0 :: l.drop (k + 1)) := by
    conv => lhs; rw [← List.take_append_drop k l, List.drop_eq_getElem_cons hk]
    simp [hk]
  conv => lhs; rw [e, val_append]
  simp only [val, List.length_take, Nat.min_eq_left (Nat.le_of_lt hk)]
theorem limbs_take {l : List Nat} (h : Limbs l) (k : Nat) : Limbs (l.take k) := fun x hx => h x (List.mem_of_mem_take hx)
theorem val_lt_of_top {l m : List Nat} {k : Nat} (hk : k < l.length) (hm : k < m.length) (hl : Limbs l) (hd : l.drop (k + 1) = m.drop (k + 1)) (h : l.getD k 0 < m.getD k 0) : val l < val m := by
  rw [val_split hk, val_split hm, hd]
  have h1 := val_lt (limbs_take hl k)
  rw [List.length_take, Nat.min_eq_left (Nat.le_of_lt hk)] at h1
  have h2 : BB ^ k * (l.getD k 0 + BB * val (m.drop (k + 1)) + 1) ≤ BB ^ k * (m.getD k 0 + BB * val (m.drop (k + 1))) := Nat.mul_le_mul_left _ (by omega)
  rw [Nat.mul_add _ _ 1] at h2
  omega
theorem val_lt_of_len {l m : List Nat} (hl : Limbs l) (nm : Nrm m) (h : l.length < m.length) : val l < val m := by
  have h1 := val_lt hl
  have h2 := nrm_val_pos nm (by intro e; subst e; simp at h)
  have h3 : BB ^ l.length ≤ BB ^ (m.length - 1) := Nat.pow_le_pow_right BB_pos (by omega)
  omega
theorem drop_step {l m : List Nat} {k : Nat} (hk : k < l.length) (hm : k < m.length) (hd : l.drop (k + 1) = m.drop (k + 1)) (h : l.getD k 0 = m.getD k 0) : l.drop k = m.drop k := by
  rw [List.drop_eq_getElem_cons hk, List.drop_eq_getElem_cons hm, hd]
  simp [hk, hm] at h
  rw [h]
theorem val_nil_iff {l : List Nat} (hn : Nrm l) : val l = 0 ↔ l = [] := by
  constructor
  · intro h
    by_cases h0 : l = []
    · exact h0
    · have := nrm_val_pos hn h0
      have : 0 < BB ^ (l.length - 1) := Nat.pow_pos BB_pos
      omega
  · rintro rfl; rfl
end Go.Proofs.YtdllbdfchloijaaGreatDoor.NumR

/- The reference's numbers (digits to the base 65536): norm, Of, Make, Sign. -/
namespace Go.Proofs.YtdllbdfchloijaaGreatDoor
open Num
open Go.ChangeShapes Go.WideShapes Go.ChangeAt Go.RowKit
set_option linter.unusedVariables false
set_option linter.unusedSimpArgs false

/-- a value is the reference's number z -/
def IsRef (w : World) (v : Value) (z : Int) : Prop := ∃ neg a cap l, v = iv neg a (List.length l) cap ∧ U32 w a cap l ∧ NumR.Limbs l ∧ Nrm l ∧ (neg = true → l ≠ []) ∧ z = sg neg (NumR.val l)
theorem IsRef.keep {w w' : World} {v : Value} {z : Int} (h : IsRef w v z) (hb : Below w.heap.size w w') : IsRef w' v z := by
  obtain ⟨neg, a, cap, l, h1, h2, h3⟩ := h
  exact ⟨neg, a, cap, l, h1, h2.keep hb, h3⟩
theorem IsRef.put {w : World} {x : Value} {z : Int} {p : Addr} {v : Value} (h : IsRef w x z) (hp : w.cell? p = some v) (hv : ∀ n, v ≠ .int .u32 n) (u : Value) : IsRef (w.setCell p u) x z := by
  obtain ⟨neg, a, cap, l, h1, h2, h3⟩ := h
  exact ⟨neg, a, cap, l, h1, h2.put hp hv u, h3⟩
theorem IsRef.put2 {w : World} {x : Value} {z : Int} {g : Nat} {b : Bool} {a : Option Addr} {n c : Nat} (h : IsRef w x z) (r0 : w.cell? ⟨g, 0, none⟩ = some (.bool b)) (r1 : w.cell? ⟨g, 1, none⟩ = some (.slice a n c)) (u v : Value) : IsRef ((w.setCell ⟨g, 0, none⟩ u).setCell ⟨g, 1, none⟩ v) x z :=
  (h.put r0 (fun _ e => by cases e) u).put (cell_far r1 (by simp) u) (fun _ e => by cases e) v
theorem U32.cap {w : World} {a : Option Addr} {cap : Nat} {l m : List Nat} (h : U32 w a cap l) (hp : m <+: l) : U32 w a cap m :=
  ⟨Nat.le_trans hp.length_le h.1, h.2.1, fun x hx => h.2.2.1 x (hp.subset hx), h.2.2.2.take hp⟩

set_option maxRecDepth 100000 in
set_option maxHeartbeats 1000000 in
theorem rnormK_c (neg : Bool) (a : Option Addr) (ca : Nat) (l : List Nat) (w : World) (ha : U32 w a ca l) :
    Calls Tryz.prog 89 #[.bool neg, .slice a l.length ca] w fun e w' => e = .returned (iv (neg && decide (0 < (trimL l).length)) a (trimL l).length ca) ∧ Below w.heap.size w w' := by
  obtain ⟨hc, hm, hl, hcs⟩ := ha
  unfold maxLen at hm
  go_enter Tryz.func89, Tryz.ntmps89
  go_wp2
  go_loop [5] (fun x => ∃ k : Nat, k ≤ l.length ∧ x = .int .i64 k ∧ trimL (l.take k) = trimL l) (fun x => (intOf x).toNat)
  case atStart => exact ⟨l.length, Nat.le_refl _, rfl, by rw [List.take_length]⟩
  case round =>
    obtain ⟨k, hk, rfl, ht⟩ := hrel
    have HT := Lib.hid ht
    clear ht
    cases k with
    | zero =>
      have hz : (trimL l).length = 0 := by have := HT.out; rw [List.take_zero] at this; rw [← this]; rfl
      have HZ := Lib.hid hz
      clear hz
      cases neg with
      | true =>
        go_wp2
        refine bodyPost_ret (v := iv false a 0 ca) (by simp [iv, results, Tryz.results89, go_sem, *]) rfl ⟨by rw [HZ.out] <;> simp, ?_⟩
        repeat (first | exact Below.refl _ _ | exact Below.refl _ _ | refine Below.drew ?_ | refine below_drewN ?_ _ | refine bset ?_ (by simp <;> omega) _ | refine bal ?_ _)
      | false =>
        go_wp2
        refine bodyPost_ret (v := iv false a 0 ca) (by simp [iv, results, Tryz.results89, go_sem, *]) rfl ⟨by rw [HZ.out] <;> simp, ?_⟩
        repeat (first | exact Below.refl _ _ | exact Below.refl _ _ | refine Below.drew ?_ | refine below_drewN ?_ _ | refine bset ?_ (by simp <;> omega) _ | refine bal ?_ _)
    | succ j =>
      rcases hcs with rfl | ⟨b, off, rfl, hcell⟩
      · simp at hk
      have hj := cell_alloc (hcell j (by omega)) (.cells #[.bool false, .slice none 0 0] 54)
      by_cases h0 : l.getD j 0 = 0
      · have HN := Lib.hid (trim_take_zero (by omega : j < l.length) h0)
        rw [h0] at hj
        go_wp2
        exact ⟨⟨j, by omega, rfl, HN.out.symm.trans HT.out⟩, by simp [intOf] <;> omega⟩
      · have HN := Lib.hid (trim_take_pos (by omega : j < l.length) h0)
        generalize hx : l.getD j 0 = x at *
        have hx0 : ((x : Int) == 0) = false := by simp; omega
        have HL := Lib.hid (show (trimL l).length = j + 1 by rw [← HT.out, HN.out]; simp; omega)
        cases neg with
        | true =>
          go_wp2
          refine bodyPost_ret (v := iv true (some ⟨b, off, none⟩) (j + 1) ca) (by simp [iv, results, Tryz.results89, go_sem, *]) rfl ⟨by rw [HL.out] <;> simp, ?_⟩
          repeat (first | exact Below.refl _ _ | exact Below.refl _ _ | refine Below.drew ?_ | refine below_drewN ?_ _ | refine bset ?_ (by simp <;> omega) _ | refine bal ?_ _)
        | false =>
          go_wp2
          refine bodyPost_ret (v := iv false (some ⟨b, off, none⟩) (j + 1) ca) (by simp [iv, results, Tryz.results89, go_sem, *]) rfl ⟨by rw [HL.out] <;> simp, ?_⟩
          repeat (first | exact Below.refl _ _ | exact Below.refl _ _ | refine Below.drew ?_ | refine below_drewN ?_ _ | refine bset ?_ (by simp <;> omega) _ | refine bal ?_ _)

theorem rnorm_c (neg : Bool) (a : Option Addr) (ca : Nat) (l : List Nat) (w : World) (ha : U32 w a ca l) (hr : NumR.Limbs l) :
    Calls Tryz.prog 89 #[.bool neg, .slice a l.length ca] w fun e w' => (∃ v, e = .returned v ∧ IsRef w' v (sg neg (NumR.val l))) ∧ Below w.heap.size w w' := by
  have key := rnormK_c neg a ca l w ha
  refine key.mono ?_
  rintro e w1 ⟨rfl, hB⟩
  refine ⟨⟨_, rfl, _, a, ca, trimL l, rfl, (ha.cap (trim_prefix l)).keep hB, NumR.trim_limbs hr, trim_nrm l, ?_, ?_⟩, hB⟩
  · intro h; simp at h; intro e; rw [e] at h; simp at h
  · rw [← NumR.val_trim l]
    by_cases h0 : trimL l = []
    · rw [h0]; simp [sg, NumR.val]
    · have : 0 < (trimL l).length := List.length_pos_iff.2 h0
      simp [this, sg]
end Go.Proofs.YtdllbdfchloijaaGreatDoor

/- The tail of a list of laid variables is laid. -/
namespace Go.Proofs.YtdllbdfchloijaaGreatDoor
theorem laid_tail {P : Program} {x : String × DataW Unit} {rest : List (String × DataW Unit)} {W : World} (h : laidMet P (x :: rest) W) : laidMet P rest W := by
  obtain ⟨ps, ⟨g, t, cs, fuel, p, q, _, _, _, _, hr, rfl⟩, hn, hi⟩ := h
  exact ⟨q, hr, (List.nodup_append.1 hn).2.1, fun b off hm => hi b off (List.mem_append_right _ hm)⟩
end Go.Proofs.YtdllbdfchloijaaGreatDoor

