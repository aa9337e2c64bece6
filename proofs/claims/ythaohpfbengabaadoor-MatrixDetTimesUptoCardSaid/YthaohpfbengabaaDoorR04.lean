/- Texts of this seat, laid together: LimbH, IntI, Sh, LimbI, Kn, LimbJ, LimbK, LimbL, RefH, RefI, PrgF. Each opens with its own remark, which says what it proves, and under which conditions. -/
import Derived.Test.YthaohpfbengabaaDoorR03
import Derived.Test.YthaohpfbengabaaDoorR01
import Derived.Shelf.Small.Bits
import Derived.Shelf.Spec.TrailingZeros
import Derived.Shelf.Strings.Builder1
import Derived.Shelf.Strings.Trim
import Derived.Test.YthaohpfbengabaaDoorR02
import Derived.Deep.Cut
import Derived.Deep.DeepCutAuto
import Derived.ArgAppend
import Derived.Deep.DeepFit
import Derived.Deep.RegionWith
set_option linter.unusedVariables false
set_option linter.unusedSimpArgs false
/- limb: Shr. -/
namespace Go.Proofs.YthaohpfbengabaaDoor
open Num
open Go.ChangeShapes Go.WideShapes Go.ChangeAt Go.RowKit
set_option linter.unusedVariables false
set_option linter.unusedSimpArgs false
namespace Num
theorem limbs_drop {l : List Nat} (h : Limbs l) (k : Nat) : Limbs (l.drop k) := fun x hx => h x (List.mem_of_mem_drop hx)
end Num
namespace Num
theorem set_fill {L : List Nat} {N i : Nat} (hL : L.length = N) (hi : i < N) : (L.take i ++ List.replicate (N - i) 0).set i (L.getD i 0) = L.take (i + 1) ++ List.replicate (N - (i + 1)) 0 := by
  have h1 : (L.take i).length = i := by rw [List.length_take]; omega
  rw [List.set_append_right _ _ (by omega), h1, Nat.sub_self, show N - i = (N - (i + 1)) + 1 from by omega, List.replicate_succ, List.set_cons_zero, List.take_succ_eq_append_getElem (by omega), List.append_assoc, show L.getD i 0 = L[i]'(by omega) from by simp [List.getD_eq_getElem?_getD, show i < L.length by omega]]
  rfl
end Num
theorem newL_nil (w : World) : NewL w (.slice none 0 0) 0 := ⟨none, 0, [], rfl, rfl, ⟨Nat.le_refl _, by unfold maxLen; omega, (fun _ h => by cases h), .inl rfl⟩, (fun h => absurd rfl h), rfl⟩

set_option maxRecDepth 100000 in
set_option maxHeartbeats 4000000 in
theorem limbShr_c (a : Option Addr) (ca : Nat) (l : List Nat) (n : Nat) (w : World) (ha : U32 w a ca l) (h1 : l.length ≤ 1099511627776) (hn : n ≤ 9223372036854775807) :
    Calls Tryd.prog 105 #[.slice a l.length ca, .int .i64 (n : Int)] w fun e w' => (∃ u, e = .returned (.tuple #[u, .int .i64 0]) ∧ NewL w' u (val l / 2 ^ n)) ∧ Below w.heap.size w w' := by
  obtain ⟨m, hm⟩ : ∃ m, m = n / 32 := ⟨_, rfl⟩
  obtain ⟨k, hk⟩ : ∃ k, k = n % 32 := ⟨_, rfl⟩
  have en1 : (n : Int) / 32 = (m : Int) := by omega
  have en2 : (n : Int) % 32 = (k : Int) := by omega
  have en3 : (n : Int).tdiv 32 = (m : Int) := by rw [Int.tdiv_eq_ediv_of_nonneg (by omega)]; exact en1
  have en4 : (n : Int).tmod 32 = (k : Int) := by rw [Int.tmod_eq_emod_of_nonneg (by omega)]; exact en2
  have hk32 : k < 32 := by omega
  have HN := Lib.hid (show 2 ^ n = BB ^ m * 2 ^ k by rw [BB_pow, ← Nat.pow_add]; congr 1; omega)
  clear hm hk
  have tc := trim_c a ca l w ha
  have ht := ha.trim
  have HV := Lib.hid (val_trim l)
  have hl1 := Nat.le_trans (trim_len l) h1
  generalize trimL l = T at *
  have hn0 : decide ((n : Int) < 0) = false := by simp
  by_cases hmT : T.length ≤ m
  · have HZ := Lib.hid (show val l / 2 ^ n = 0 by
      apply Nat.div_eq_of_lt
      rw [← HV.out, HN.out]
      have h2 := val_lt ht.2.2.1
      have h3 : BB ^ T.length ≤ BB ^ m := Nat.pow_le_pow_right BB_pos hmT
      have h4 : BB ^ m * 1 ≤ BB ^ m * 2 ^ k := Nat.mul_le_mul_left _ (Nat.pow_pos (by omega))
      omega)
    go_enter Tryd.func105, Tryd.ntmps105
    go_wp2_with fail
    refine tc.mono ?_
    rintro e w1 ⟨rfl, rfl⟩
    clear tc
    go_wp2
    go_ret2
    exact ⟨⟨_, rfl, by rw [HZ.out]; exact newL_nil _⟩, Below.refl _ _⟩
  · have hmT' : decide (T.length ≤ m) = false := by simp; omega
    rcases ht.2.2.2 with ht0 | ⟨b, off, rfl, hca⟩
    · subst ht0; simp at hmT
    have htl := ht.2.2.1
    have hd1 := limbs_drop htl m
    have HD := Lib.hid (show val (shrL k (T.drop m)) = val l / 2 ^ n by rw [shrL_val k hk32 _ hd1, val_drop htl (by omega), HV.out, HN.out, Nat.div_div_eq_div_mul])
    obtain ⟨D, hD⟩ : ∃ D, D = T.drop m := ⟨_, rfl⟩
    have hDl : D.length = T.length - m := by rw [hD, List.length_drop]
    have hcd : ∀ i, i < D.length → w.cell? ⟨b, off + m + i, none⟩ = some (.int .u32 (D.getD i 0 : Nat)) := fun i hi => by
      have := hca (m + i) (by omega)
      rw [hD, Nat.add_assoc, this]
      simp [List.getD_eq_getElem?_getD, List.getElem?_drop]
    rw [← hD] at HD hd1
    have HCD := Lib.hid hcd
    have hcap : ¬ T.length = m := by omega
    have hmk := mk32 D.length (by omega)
    have eD : ((T.length : Int) - (m : Int)) = (D.length : Int) := by omega
    have eD2 : T.length - m = D.length := hDl.symm
    have hDp : 0 < D.length := by omega
    clear hD hDl hcd HN HV
    go_enter Tryd.func105, Tryd.ntmps105
    go_wp2_with fail
    refine tc.mono ?_
    rintro e w1 ⟨rfl, rfl⟩
    clear tc
    go_wp2
    go_loopw [31] (fun x wr => ∃ (i : Nat) (O : List Nat), i ≤ D.length ∧ x = .int .i64 i ∧ Blk wr w.heap.size O ∧ Hid (O = (shrL k D).take i ++ List.replicate (D.length - i) 0) ∧ Below w.heap.size w wr) (fun x _ => D.length - (intOf x).toNat)
    case atStart => exact ⟨0, _, Nat.zero_le _, rfl, blk_new w (List.replicate D.length 0), Lib.hid (by simp), bal (Below.refl _ _) _⟩
    case round =>
      obtain ⟨i, O, hi, rfl, hO, hOe, hB⟩ := hrel
      have hol : O.length = D.length := by rw [hOe.out]; simp [shrL_len]; omega
      by_cases hlt : i < D.length
      · have c0 := bkeep hB (HCD.out i hlt)
        have hx := limb_get hd1 i
        have HG := Lib.hid (shrL_get k D i hlt)
        have q0 := hO.cell i (by omega)
        have qf := hO.frozen i
        have e1 := w64 (BB_sq _ hx)
        by_cases hl2 : i + 1 < D.length
        · have d0 := bkeep hB (HCD.out (i + 1) hl2)
          have hy := limb_get hd1 (i + 1)
          generalize D.getD i 0 = x at *
          generalize D.getD (i + 1) 0 = y at *
          have e2 := w64 (BB_sq y hy)
          have eor : bits .or .u64 (x : Int) ((y : Int) * 4294967296) = ((x + y * BB : Nat) : Int) := by
            have e : (y : Int) * 4294967296 = ((y * BB : Nat) : Int) := by rw [Int.natCast_mul]; rfl
            have h := hi_or hy hx
            have hb : y * BB < 18446744073709551616 := by unfold BB at *; omega
            rw [u64_or_nat _ _ hb (by unfold BB at hx; omega)] at h
            rw [e, u64_or_nat _ _ (by unfold BB at hx; omega) hb, Nat.or_comm, h, Nat.add_comm]
          have hyl : (y : Int) < 4294967296 := by unfold BB at hy; omega
          have hl3 : (i : Int) + 1 < (D.length : Int) := by omega
          generalize x + y * BB = t at *
          have e3 : (t : Int) / 2 ^ k = ((t / 2 ^ k : Nat) : Int) := by rw [show (2 : Int) ^ k = ((2 ^ k : Nat) : Int) by rw [Int.natCast_pow]; rfl]; rfl
          have hr2 : (shrL k D).getD i 0 = t / 2 ^ k % BB := HG.out
          have e4 : ((t / 2 ^ k : Nat) : Int) % 4294967296 = ((t / 2 ^ k % BB : Nat) : Int) := by unfold BB; omega
          generalize t / 2 ^ k = q at *
          generalize hrr : q % BB = r at *
          have HR := Lib.hid hr2
          have qb := hO.set i r
          have bs := bset hB (p := ⟨w.heap.size, i, none⟩) (Nat.le_refl _) (.int .u32 (r : Int))
          clear hr2 hrr hol HG
          go_wp2
          exact ⟨⟨i + 1, _, by omega, by go_num, qb, Lib.hid (by rw [hOe.out, ← HR.out]; exact set_fill (shrL_len k D) hlt), bs⟩, by simp [intOf] <;> omega⟩
        · have hy0 : D.getD (i + 1) 0 = 0 := by simp [hl2]
          rw [hy0, Nat.zero_mul, Nat.add_zero] at HG
          have hl3 : decide ((i : Int) + 1 < (D.length : Int)) = false := by simp; omega
          generalize D.getD i 0 = x at *
          clear hy0
          obtain ⟨t, ht2⟩ : ∃ t, t = x := ⟨_, rfl⟩
          subst ht2
          have e3 : (t : Int) / 2 ^ k = ((t / 2 ^ k : Nat) : Int) := by rw [show (2 : Int) ^ k = ((2 ^ k : Nat) : Int) by rw [Int.natCast_pow]; rfl]; rfl
          have hr2 : (shrL k D).getD i 0 = t / 2 ^ k % BB := HG.out
          have e4 : ((t / 2 ^ k : Nat) : Int) % 4294967296 = ((t / 2 ^ k % BB : Nat) : Int) := by unfold BB; omega
          generalize t / 2 ^ k = q at *
          generalize hrr : q % BB = r at *
          have HR := Lib.hid hr2
          have qb := hO.set i r
          have bs := bset hB (p := ⟨w.heap.size, i, none⟩) (Nat.le_refl _) (.int .u32 (r : Int))
          clear hr2 hrr hol HG
          go_wp2
          exact ⟨⟨i + 1, _, by omega, by go_num, qb, Lib.hid (by rw [hOe.out, ← HR.out]; exact set_fill (shrL_len k D) hlt), bs⟩, by simp [intOf] <;> omega⟩
      · obtain rfl : i = D.length := by omega
        have hLs := shrL_len k D
        have hOe2 : O = shrL k D := by rw [hOe.out, List.take_of_length_le (by omega)]; simp
        have hOL : Limbs O := by rw [hOe2]; exact shrL_limbs k D
        have HV := Lib.hid (show val O = val l / 2 ^ n by rw [hOe2]; exact HD.out)
        have hu := hO.u32 hOL (by rw [hol]; unfold maxLen; omega)
        have tc := trim_c _ _ _ _ hu
        have HT := Lib.hid (val_trim O)
        have HNr := trim_nrm O
        have hu2 := hu.trim
        generalize trimL O = T2 at *
        rw [hol] at tc
        clear hOe hOe2 hu hol hLs
        go_wp2_with fail
        refine tc.mono ?_
        rintro e w1 ⟨rfl, rfl⟩
        clear tc
        go_wp2
        go_ret2
        exact ⟨⟨_, rfl, _, _, T2, rfl, rfl, hu2, HNr, by rw [HT.out, HV.out]⟩, hB⟩
end Go.Proofs.YthaohpfbengabaaDoor

/- integer: Abs, Shl. -/
namespace Go.Proofs.YthaohpfbengabaaDoor
open Num
open Go.ChangeShapes Go.WideShapes Go.ChangeAt Go.RowKit
set_option linter.unusedVariables false
set_option linter.unusedSimpArgs false

set_option maxRecDepth 100000 in
set_option maxHeartbeats 1000000 in
theorem abs_c (vx : Value) (x : Int) (w : World) (hx : IsInt w vx x) :
    Calls Tryd.prog 89 #[vx] w fun e w' => (∃ v, e = .returned v ∧ IsInt w' v (x.natAbs : Int)) ∧ Below w.heap.size w w' := by
  obtain ⟨n1, a1, c1, l1, rfl, u1, g1, s1, rfl⟩ := hx
  have mc := fun w h => made_c false a1 c1 l1 w h g1
  rw [sg_abs]
  rw [show sg false (val l1) = (val l1 : Int) from rfl] at mc
  clear s1 g1
  unfold iv
  have hB0 := Below.refl w.heap.size w
  go_enter Tryd.func89, Tryd.ntmps89
  go_wp2_with fail
  refine (mc _ (u1.keep (by repeat (first | exact Below.refl _ _ | exact hB0 | refine Below.drew ?_ | refine below_drewN ?_ _ | refine bset ?_ (by simp <;> omega) _ | refine bal ?_ _)))).mono ?_
  rintro e w1 ⟨⟨v, rfl, hi⟩, hb1⟩
  have r0 : w1.cell? ⟨w.heap.size + 1, 0, none⟩ = some (.bool false) := bkc hb1
  have zr0 := cell_lt r0
  have r0f : w1.frozen? ⟨w.heap.size + 1, 0, none⟩ = false := bkcf (v := .bool false) hb1
  have r1 : w1.cell? ⟨w.heap.size + 1, 1, none⟩ = some (.slice none 0 0) := bkc hb1
  have r1f : w1.frozen? ⟨w.heap.size + 1, 1, none⟩ = false := bkcf (v := .slice none 0 0) hb1
  have hB : Below w.heap.size w w1 := bthen (by repeat (first | exact Below.refl _ _ | exact hB | refine Below.drew ?_ | refine below_drewN ?_ _ | refine bset ?_ (by simp <;> omega) _ | refine bal ?_ _)) hb1
  have hz : w.heap.size ≤ w1.heap.size := hB.size
  have HI2 := Lib.hid (hi.put2 r0 r1)
  obtain ⟨n4, a4, c4, l4, rfl, _, _, _, _⟩ := hi
  unfold iv at *
  go_wp2
  refine bodyPost_ret (v := .agg #[.bool n4, .slice a4 l4.length c4]) (by simp [results, Tryd.results89, go_sem, *]) rfl ⟨⟨_, rfl, HI2.out _ _⟩, ?_⟩
  repeat (first | exact Below.refl _ _ | exact hB | refine Below.drew ?_ | refine below_drewN ?_ _ | refine bset ?_ (by simp <;> omega) _ | refine bal ?_ _)

namespace Num
end Num
end Go.Proofs.YthaohpfbengabaaDoor

/- Contracts of Go's library, laid from the shelf (printed by wip/bin/mk_sh.sh): math/bits, strings.Builder, strings.TrimLeft. -/
namespace Go.Proofs.YthaohpfbengabaaDoor
open Num
open Go.ChangeShapes Go.WideShapes Go.ChangeAt Go.RowKit
set_option linter.unusedVariables false
def sh_lays169_ren : Go.Shelf.Ren := ⟨fun | 169 => 84 | n => n, fun | 70 => 125 | 9 => 9 | 0 => 0 | 72 => 127 | 37 => 109 | 127 => 142 | 3 => 3 | 5 => 5 | n => n, fun | n => n⟩
theorem sh_lays169 : Go.Proofs.Lays.n169 Tryd.prog sh_lays169_ren := {
  mixed := by kernel_rfl
  f169 := Tryd.func84.trans (congrArg some (by kernel_rfl))
  t0 := Tryd.underlying0
  a0 := Tryd.isAgg0
  z0 := Tryd.sizeOf0
  v0 := Tryd.zeroValue0
  t3 := Tryd.underlying3
  a3 := Tryd.isAgg3
  z3 := Tryd.sizeOf3
  v3 := Tryd.zeroValue3
  t9 := Tryd.underlying9
  a9 := Tryd.isAgg9
  z9 := Tryd.sizeOf9
  v9 := Tryd.zeroValue9
  t37 := Tryd.underlying109
  a37 := Tryd.isAgg109
  z37 := Tryd.sizeOf109
  v37 := Tryd.zeroValue109
  t70 := Tryd.underlying125
  a70 := Tryd.isAgg125
  z70 := Tryd.sizeOf125
  v70 := Tryd.zeroValue125
  t72 := Tryd.underlying127
  a72 := Tryd.isAgg127
  z72 := Tryd.sizeOf127
  v72 := Tryd.zeroValue127
  t127 := Tryd.underlying142
  a127 := Tryd.isAgg142
  z127 := Tryd.sizeOf142
  v127 := Tryd.zeroValue142 }
theorem sh_Builder_Extra_169 : Go.Proofs.Builder.Extra Tryd.prog sh_lays169_ren := {
  sizeBuilder := by kernel_rfl
  liesBuilder := by kernel_rfl
  t5 := Tryd.underlying5
  a5 := Tryd.isAgg5
  z5 := Tryd.sizeOf5
  v5 := Tryd.zeroValue5
  infoByte := by kernel_rfl
  cellsByte := by kernel_rfl
  sizeByte := by kernel_rfl
  neB5 := by decide }
def sh_lays161_ren : Go.Shelf.Ren := ⟨fun | 161 => 106 | 231 => 114 | 227 => 115 | 233 => 116 | 235 => 117 | 228 => 120 | 197 => 121 | 151 => 122 | 260 => 127 | 152 => 128 | 137 => 80 | 119 => 129 | 224 => 130 | 225 => 131 | 217 => 96 | 266 => 108 | n => n, fun | 9 => 9 | 4 => 4 | 3 => 3 | 5 => 5 | 117 => 161 | 116 => 160 | 0 => 0 | 124 => 164 | 105 => 168 | 21 => 21 | 119 => 174 | 46 => 90 | 139 => 177 | 138 => 176 | n => n, fun | 3 => 1 | 4 => 2 | n => n⟩
theorem sh_lays161 : Go.Proofs.Lays.n161 Tryd.prog sh_lays161_ren := {
  mixed := by kernel_rfl
  f119 := Tryd.func129.trans (congrArg some (by kernel_rfl))
  f137 := Tryd.func80.trans (congrArg some (by kernel_rfl))
  f151 := Tryd.func122.trans (congrArg some (by kernel_rfl))
  f152 := Tryd.func128.trans (congrArg some (by kernel_rfl))
  f161 := Tryd.func106.trans (congrArg some (by kernel_rfl))
  f197 := Tryd.func121.trans (congrArg some (by kernel_rfl))
  f217 := Tryd.func96.trans (congrArg some (by kernel_rfl))
  f224 := Tryd.func130.trans (congrArg some (by kernel_rfl))
  f225 := Tryd.func131.trans (congrArg some (by kernel_rfl))
  f227 := Tryd.func115.trans (congrArg some (by kernel_rfl))
  f228 := Tryd.func120.trans (congrArg some (by kernel_rfl))
  f231 := Tryd.func114.trans (congrArg some (by kernel_rfl))
  f233 := Tryd.func116.trans (congrArg some (by kernel_rfl))
  f235 := Tryd.func117.trans (congrArg some (by kernel_rfl))
  f260 := Tryd.func127.trans (congrArg some (by kernel_rfl))
  f266 := Tryd.func108.trans (congrArg some (by kernel_rfl))
  t0 := Tryd.underlying0
  a0 := Tryd.isAgg0
  z0 := Tryd.sizeOf0
  v0 := Tryd.zeroValue0
  t3 := Tryd.underlying3
  a3 := Tryd.isAgg3
  z3 := Tryd.sizeOf3
  v3 := Tryd.zeroValue3
  t4 := Tryd.underlying4
  a4 := Tryd.isAgg4
  z4 := Tryd.sizeOf4
  v4 := Tryd.zeroValue4
  t5 := Tryd.underlying5
  a5 := Tryd.isAgg5
  z5 := Tryd.sizeOf5
  v5 := Tryd.zeroValue5
  t9 := Tryd.underlying9
  a9 := Tryd.isAgg9
  z9 := Tryd.sizeOf9
  v9 := Tryd.zeroValue9
  t21 := Tryd.underlying21
  a21 := Tryd.isAgg21
  z21 := Tryd.sizeOf21
  v21 := Tryd.zeroValue21
  t46 := Tryd.underlying90
  a46 := Tryd.isAgg90
  z46 := Tryd.sizeOf90
  v46 := Tryd.zeroValue90
  t105 := Tryd.underlying168
  a105 := Tryd.isAgg168
  z105 := Tryd.sizeOf168
  v105 := Tryd.zeroValue168
  t116 := Tryd.underlying160
  a116 := Tryd.isAgg160
  z116 := Tryd.sizeOf160
  t117 := Tryd.underlying161
  a117 := Tryd.isAgg161
  z117 := Tryd.sizeOf161
  v117 := Tryd.zeroValue161
  t119 := Tryd.underlying174
  a119 := Tryd.isAgg174
  z119 := Tryd.sizeOf174
  t124 := Tryd.underlying164
  a124 := Tryd.isAgg164
  z124 := Tryd.sizeOf164
  v124 := Tryd.zeroValue164
  t138 := Tryd.underlying176
  a138 := Tryd.isAgg176
  z138 := Tryd.sizeOf176
  v138 := Tryd.zeroValue176
  t139 := Tryd.underlying177
  a139 := Tryd.isAgg177
  z139 := Tryd.sizeOf177
  v139 := Tryd.zeroValue177
  g3 := by kernel_rfl
  g4 := by kernel_rfl }
def sh_lays133_ren : Go.Shelf.Ren := ⟨fun | 133 => 102 | 128 => 112 | n => n, fun | 51 => 89 | 3 => 3 | 4 => 4 | 46 => 90 | 5 => 5 | 9 => 9 | n => n, fun | n => n⟩
theorem sh_lays133 : Go.Proofs.Lays.n133 Tryd.prog sh_lays133_ren := {
  mixed := by kernel_rfl
  f128 := Tryd.func112.trans (congrArg some (by kernel_rfl))
  f133 := Tryd.func102.trans (congrArg some (by kernel_rfl))
  t3 := Tryd.underlying3
  a3 := Tryd.isAgg3
  z3 := Tryd.sizeOf3
  v3 := Tryd.zeroValue3
  t4 := Tryd.underlying4
  a4 := Tryd.isAgg4
  z4 := Tryd.sizeOf4
  v4 := Tryd.zeroValue4
  t5 := Tryd.underlying5
  a5 := Tryd.isAgg5
  z5 := Tryd.sizeOf5
  v5 := Tryd.zeroValue5
  t9 := Tryd.underlying9
  a9 := Tryd.isAgg9
  z9 := Tryd.sizeOf9
  v9 := Tryd.zeroValue9
  t46 := Tryd.underlying90
  a46 := Tryd.isAgg90
  z46 := Tryd.sizeOf90
  v46 := Tryd.zeroValue90
  t51 := Tryd.underlying89
  a51 := Tryd.isAgg89
  z51 := Tryd.sizeOf89
  v51 := Tryd.zeroValue89 }

def sh_lays166_ren : Go.Shelf.Ren := ⟨fun | 166 => 83 | 240 => 98 | 276 => 110 | n => n, fun | 0 => 0 | 3 => 3 | 4 => 4 | 5 => 5 | 9 => 9 | 20 => 20 | 37 => 109 | 70 => 125 | 72 => 127 | 75 => 130 | 80 => 65 | 164 => 154 | n => n, fun n => n⟩
theorem sh_lays166 : Go.Proofs.Lays.n166 Tryd.prog sh_lays166_ren := {
  mixed := by kernel_rfl
  f166 := Tryd.func83.trans (congrArg some (by kernel_rfl))
  f240 := Tryd.func98.trans (congrArg some (by kernel_rfl))
  f276 := Tryd.func110.trans (congrArg some (by kernel_rfl))
  t0 := Tryd.underlying0
  a0 := Tryd.isAgg0
  z0 := Tryd.sizeOf0
  v0 := Tryd.zeroValue0
  t3 := Tryd.underlying3
  a3 := Tryd.isAgg3
  z3 := Tryd.sizeOf3
  v3 := Tryd.zeroValue3
  t4 := Tryd.underlying4
  a4 := Tryd.isAgg4
  z4 := Tryd.sizeOf4
  v4 := Tryd.zeroValue4
  t9 := Tryd.underlying9
  a9 := Tryd.isAgg9
  z9 := Tryd.sizeOf9
  v9 := Tryd.zeroValue9
  t20 := Tryd.underlying20
  a20 := Tryd.isAgg20
  z20 := Tryd.sizeOf20
  v20 := Tryd.zeroValue20
  t37 := Tryd.underlying109
  a37 := Tryd.isAgg109
  z37 := Tryd.sizeOf109
  v37 := Tryd.zeroValue109
  t70 := Tryd.underlying125
  a70 := Tryd.isAgg125
  z70 := Tryd.sizeOf125
  v70 := Tryd.zeroValue125
  t72 := Tryd.underlying127
  a72 := Tryd.isAgg127
  z72 := Tryd.sizeOf127
  v72 := Tryd.zeroValue127
  t75 := Tryd.underlying130
  a75 := Tryd.isAgg130
  z75 := Tryd.sizeOf130
  v75 := Tryd.zeroValue130
  t164 := Tryd.underlying154
  a164 := Tryd.isAgg154
  z164 := Tryd.sizeOf154
  v164 := Tryd.zeroValue154 }
theorem sh_Builder_Extra_166 : Go.Proofs.Builder.Extra Tryd.prog sh_lays166_ren := {
  sizeBuilder := by kernel_rfl
  liesBuilder := by kernel_rfl
  t5 := Tryd.underlying5
  a5 := Tryd.isAgg5
  z5 := Tryd.sizeOf5
  v5 := Tryd.zeroValue5
  infoByte := by kernel_rfl
  cellsByte := by kernel_rfl
  sizeByte := by kernel_rfl
  neB5 := by decide }

theorem lz32_c (x : Nat) (w : World) (h : x < BB) :
    Calls Tryd.prog 102 #[.int .u32 (x : Int)] w fun e w' => e = .returned (.int .i64 (32 - (bitN x : Int))) ∧ w = w' := by
  unfold BB at h
  have := Go.Proofs.Any.bits_LeadingZeros32 sh_lays133 (x : Int) w (by omega) (by omega)
  rw [Int.toNat_natCast, bitLen_eq x (by omega)] at this
  refine this.mono ?_
  rintro e w' ⟨rfl, rfl⟩
  exact ⟨rfl, rfl⟩
/-- a builder of the call's own that holds the bytes l -/
def Bld (B b : Nat) (l : List UInt8) (w : World) : Prop := Lib.IsBuilder 127 5 B b (Lib.byteCells l) w
theorem bytes_str (s : ByteArray) : Lib.strCells s = Lib.byteCells s.data.toList := rfl
theorem bytes_app (l m : List UInt8) : Lib.byteCells (l ++ m) = Lib.byteCells l ++ Lib.byteCells m := by simp [Lib.byteCells]
theorem bwrite_c (B b : Nat) (l : List UInt8) (s : ByteArray) (w : World) (h : Bld B b l w) (hlen : l.length + s.size ≤ 1099511627776) (hB : B ≤ w.heap.size) :
    Calls Tryd.prog 83 #[.pointer (some ⟨b, 0, none⟩), .string s] w fun e w' => e = .returned (.tuple #[.int .i64 s.size, .nilIface]) ∧ Bld B b (l ++ s.data.toList) w' ∧ Below B w w' := by
  refine (Go.Proofs.Any.Builder_WriteString sh_lays166 sh_Builder_Extra_166 B b (Lib.byteCells l) s w h (by rw [Lib.byteCells_length]; omega) hB).mono ?_
  rintro e w' ⟨rfl, h1, h2⟩
  refine ⟨rfl, ?_, h2⟩
  unfold Bld
  rw [bytes_app, ← bytes_str]
  exact .inr h1
theorem bstring_c (B b : Nat) (l : List UInt8) (w : World) (h : Bld B b l w) (hB : B ≤ w.heap.size) :
    Calls Tryd.prog 84 #[.pointer (some ⟨b, 0, none⟩)] w fun e w' => e = .returned (.string ⟨l.toArray⟩) ∧ Below B w w' :=
  Go.Proofs.Any.Builder_String_any sh_lays169 sh_Builder_Extra_169 B b l w h hB
theorem trimLeft_c (s : ByteArray) (w : World) :
    Calls Tryd.prog 106 #[.string s, .string ⟨#[48]⟩] w fun e w' => e = .returned (.string ⟨(Lib.trimLeftB s.data.toList 48).toArray⟩) ∧ w = w' := by
  refine (Go.Proofs.Any.strings_TrimLeft_one sh_lays161 s 48 (by decide) w).mono ?_
  rintro e w' ⟨rfl, rfl⟩
  exact ⟨rfl, rfl⟩
end Go.Proofs.YthaohpfbengabaaDoor

/- math/bits.TrailingZeros32, limb: Twos. -/
namespace Go.Proofs.YthaohpfbengabaaDoor
open Num
open Go.ChangeShapes Go.WideShapes Go.ChangeAt Go.RowKit
set_option linter.unusedVariables false
set_option linter.unusedSimpArgs false

namespace Num
end Num

end Go.Proofs.YthaohpfbengabaaDoor

/- Plain: long division, limb by limb. -/
namespace Go.Proofs.YthaohpfbengabaaDoor.Num
/-- i limbs of a list, from the k-th on -/
def win (U : List Nat) (k i : Nat) : Nat := val ((U.drop k).take i)
theorem take_any (l : List Nat) (k : Nat) : val (l.take (k + 1)) = val (l.take k) + l.getD k 0 * BB ^ k := by
  by_cases h : k < l.length
  · exact val_take_succ h
  · rw [List.take_of_length_le (by omega), List.take_of_length_le (by omega)]; simp [show l.length ≤ k by omega]
theorem win_zero (U : List Nat) (k : Nat) : win U k 0 = 0 := by simp [win, val]
theorem win_succ {U : List Nat} {k i : Nat} (h : k + i < U.length) : win U k (i + 1) = win U k i + U.getD (k + i) 0 * BB ^ i := by
  unfold win
  rw [val_take_succ (by simp; omega)]
  simp [List.getElem?_drop]
theorem win_set {U : List Nat} {k i j x : Nat} (h : j < k ∨ k + i ≤ j) : win (U.set j x) k i = win U k i := by
  unfold win
  congr 1
  apply List.ext_getElem?
  intro m
  simp only [List.getElem?_take, List.getElem?_drop, List.getElem?_set]
  by_cases hm : m < i
  · rw [if_pos hm, if_neg (by omega)]; simp [hm]
  · simp [hm]
theorem win_lt {U : List Nat} (h : Limbs U) (k i : Nat) : win U k i < BB ^ i := by
  unfold win
  refine Nat.lt_of_lt_of_le (val_lt (fun x hx => h x (List.mem_of_mem_drop (List.mem_of_mem_take hx)))) (Nat.pow_le_pow_right BB_pos ?_)
  simp; omega
theorem win_set_succ {U : List Nat} {k i x : Nat} (h : k + i < U.length) : win (U.set (k + i) x) k (i + 1) = win U k i + x * BB ^ i := by
  rw [win_succ (by simpa using h), win_set (.inr (Nat.le_refl _))]
  simp [h]
theorem getD_set_far {l : List Nat} {i j x : Nat} (h : i ≠ j) : (l.set i x).getD j 0 = l.getD j 0 := getD_set_ne h
/-- v, so many times, is taken: one limb -/
theorem less_arith {W V W0 c b P vi t ui m c1 r b1 B : Nat} (h : W + V * t = W0 + (c + b) * P) (hc : c + vi * t = c1 * B + m) (hr : r + m + b = ui + b1 * B) :
    W + r * P + (V + vi * P) * t = W0 + ui * P + (c1 + b1) * (B * P) := by
  have e1 : (V + vi * P) * t = V * t + vi * t * P := by rw [Nat.add_mul]; congr 1; ac_rfl
  have e2 : (c1 + b1) * (B * P) = c1 * B * P + b1 * B * P := by rw [Nat.add_mul]; congr 1 <;> ac_rfl
  have e3 : c * P + vi * t * P = c1 * B * P + m * P := by rw [← Nat.add_mul, hc, Nat.add_mul]
  have e4 : r * P + m * P + b * P = ui * P + b1 * B * P := by rw [← Nat.add_mul, ← Nat.add_mul, hr, Nat.add_mul]
  have e5 : (c + b) * P = c * P + b * P := Nat.add_mul _ _ _
  rw [e1, e2]
  omega
theorem back_arith {W V W1 c P vi ui c1 r B : Nat} (h : W + c * P = W1 + V) (hc : c + ui + vi = c1 * B + r) :
    W + r * P + c1 * (B * P) = W1 + ui * P + (V + vi * P) := by
  have e1 : c * P + ui * P + vi * P = c1 * (B * P) + r * P := by
    rw [← Nat.add_mul, ← Nat.add_mul, hc, Nat.add_mul]; congr 1; ac_rfl
  omega
/-- a list's value, by its two highest limbs -/
theorem top_two {v : List Nat} {n : Nat} (h : v.length = n + 2) : val v = v.getD (n + 1) 0 * BB ^ (n + 1) + v.getD n 0 * BB ^ n + val (v.take n) := by
  have h1 := val_take_succ (l := v) (k := n + 1) (by omega)
  have h2 := val_take_succ (l := v) (k := n) (by omega)
  rw [List.take_of_length_le (by omega)] at h1
  omega
theorem win_top {U : List Nat} {k n : Nat} (h : k + (n + 3) ≤ U.length) : win U k (n + 3) = (U.getD (k + (n + 2)) 0 * BB + U.getD (k + (n + 1)) 0) * BB ^ (n + 1) + U.getD (k + n) 0 * BB ^ n + win U k n := by
  rw [win_succ (by omega), win_succ (by omega), win_succ (by omega)]
  have : BB ^ (n + 2) = BB * BB ^ (n + 1) := by rw [Nat.pow_succ BB (n + 1), Nat.mul_comm]
  rw [this, Nat.add_mul]
  have : U.getD (k + (n + 2)) 0 * (BB * BB ^ (n + 1)) = U.getD (k + (n + 2)) 0 * BB * BB ^ (n + 1) := by ac_rfl
  omega
section
variable {N D v1 v2 low high u2 lowN P1 P2 B g r : Nat}
theorem kn_first (hP : 0 < P1) (hD : v1 * P1 ≤ D) (hN : N < (high + 1) * P1) (hD0 : 0 < D) (hv : 0 < v1) : N / D ≤ high / v1 := by
  rw [Nat.le_div_iff_mul_le hv]
  have h1 : N / D * D ≤ N := Nat.div_mul_le_self N D
  have h2 : N / D * (v1 * P1) ≤ N / D * D := Nat.mul_le_mul (Nat.le_refl _) hD
  have h3 : N / D * v1 * P1 < (high + 1) * P1 := by rw [Nat.mul_assoc]; omega
  have := Nat.lt_of_mul_lt_mul_right h3
  omega
theorem kn_big (h : N < D * B) : N / D < B := Nat.div_lt_of_lt_mul h
theorem kn_step (hP : 0 < P2) (hD0 : 0 < D) (hD : D = v1 * (B * P2) + v2 * P2 + low) (hN : N = high * (B * P2) + u2 * P2 + lowN) (hlN : lowN < P2) (hg : g * v1 + r = high) (ht : r * B + u2 < g * v2) : N / D < g := by
  rw [Nat.div_lt_iff_lt_mul hD0, hN, hD]
  have e1 : g * (v1 * (B * P2) + v2 * P2 + low) = g * v1 * (B * P2) + g * v2 * P2 + g * low := by
    rw [Nat.mul_add, Nat.mul_add]; congr 1; congr 1 <;> ac_rfl
  have e2 : high * (B * P2) = g * v1 * (B * P2) + r * B * P2 := by rw [← hg, Nat.add_mul]; congr 1; ac_rfl
  have e3 : (r * B + u2 + 1) * P2 ≤ g * v2 * P2 := Nat.mul_le_mul ht (Nat.le_refl _)
  have e4 : (r * B + u2 + 1) * P2 = r * B * P2 + u2 * P2 + P2 := by rw [Nat.add_mul, Nat.add_mul]; omega
  omega
theorem kn_exit (hv1 : 0 < v1) (hB : 0 < B) (hgB : g < B) (hlow : low < P2) (hD : D = v1 * (B * P2) + v2 * P2 + low) (hN : N = high * (B * P2) + u2 * P2 + lowN) (hg : g * v1 + r = high) (ht : g * v2 ≤ r * B + u2) : g * D < N + D := by
  have e1 : g * D = g * v1 * (B * P2) + g * v2 * P2 + g * low := by
    rw [hD, Nat.mul_add, Nat.mul_add]; congr 1; congr 1 <;> ac_rfl
  have e2 : high * (B * P2) = g * v1 * (B * P2) + r * B * P2 := by rw [← hg, Nat.add_mul]; congr 1; ac_rfl
  have e3 : g * v2 * P2 ≤ (r * B + u2) * P2 := Nat.mul_le_mul ht (Nat.le_refl _)
  have e4 : (r * B + u2) * P2 = r * B * P2 + u2 * P2 := Nat.add_mul _ _ _
  have e5 : g * low < B * P2 := Nat.mul_lt_mul'' hgB hlow
  have e6 : B * P2 ≤ v1 * (B * P2) := Nat.le_mul_of_pos_left _ hv1
  omega
theorem kn_far (hlow : v2 * P2 + low < B * P2) (hD : D = v1 * (B * P2) + v2 * P2 + low) (hN : N = high * (B * P2) + u2 * P2 + lowN) (hg : g * v1 + r = high) (hr : g ≤ r) : g * D ≤ N := by
  have e1 : D ≤ (v1 + 1) * (B * P2) := by rw [Nat.add_mul]; omega
  have e2 : g * D ≤ g * ((v1 + 1) * (B * P2)) := Nat.mul_le_mul (Nat.le_refl _) e1
  have e3 : g * ((v1 + 1) * (B * P2)) = (g * v1 + g) * (B * P2) := by rw [← Nat.mul_assoc, Nat.mul_add, Nat.mul_one]
  have e4 : (g * v1 + g) * (B * P2) ≤ high * (B * P2) := Nat.mul_le_mul (by omega) (Nat.le_refl _)
  omega
end
theorem low_two {v2 low P2 B : Nat} (h2 : v2 < B) (hl : low < P2) : v2 * P2 + low < B * P2 := by
  have : (v2 + 1) * P2 ≤ B * P2 := Nat.mul_le_mul h2 (Nat.le_refl _)
  rw [Nat.add_mul] at this
  omega
theorem kn_done {N D g W : Nat} (hD : 0 < D) (hq : N / D ≤ g) (h : W + D * g = N) : N / D = g ∧ N % D = W := by
  have h1 : g ≤ N / D := by rw [Nat.le_div_iff_mul_le hD, Nat.mul_comm]; omega
  have h2 : N / D = g := by omega
  refine ⟨h2, ?_⟩
  have := Nat.div_add_mod N D
  rw [h2] at this
  omega
theorem kn_over {N D g W P : Nat} (hD : 0 < D) (hg : g * D < N + D) (hW : W < P) (h : W + D * g = N + P) : g = N / D + 1 ∧ W + D = N % D + P := by
  have e : D * g = g * D := Nat.mul_comm _ _
  have h1 : N < g * D := by omega
  have h2 : N / D < g := (Nat.div_lt_iff_lt_mul hD).2 h1
  have h3 : g ≤ N / D + 1 := by
    apply Nat.le_of_not_lt
    intro hlt
    have : (N / D + 2) * D ≤ g * D := Nat.mul_le_mul hlt (Nat.le_refl _)
    have h4 := Nat.lt_div_mul_add (a := N) hD
    rw [Nat.add_mul] at this
    omega
  have hq : g = N / D + 1 := by omega
  refine ⟨hq, ?_⟩
  have := Nat.div_add_mod N D
  rw [hq, Nat.mul_add, Nat.mul_one] at h
  omega
theorem kn_back {R W P c : Nat} (hR : R < P) (hW : W < P) (h : W + c * P = R + P) : W = R := by
  rcases Nat.lt_or_ge c 1 with h0 | h0
  · obtain rfl : c = 0 := by omega
    omega
  · rcases Nat.lt_or_ge 1 c with h1 | h1
    · have : 2 * P ≤ c * P := Nat.mul_le_mul h1 (Nat.le_refl _)
      omega
    · obtain rfl : c = 1 := by omega
      omega
theorem val_cut {U : List Nat} {k : Nat} (h : k ≤ U.length) : val U = val (U.take k) + BB ^ k * val (U.drop k) := by
  conv => lhs; rw [← List.take_append_drop k U]
  rw [val_append, List.length_take, Nat.min_eq_left h]
end Go.Proofs.YthaohpfbengabaaDoor.Num

/- limb: less (v, so many times, is taken from a part of u). -/
namespace Go.Proofs.YthaohpfbengabaaDoor
open Num
open Go.ChangeShapes Go.WideShapes Go.ChangeAt Go.RowKit
set_option linter.unusedVariables false
set_option linter.unusedSimpArgs false
/-- a block of limbs that may be written, whose first cells are l -/
def Rw32 (w : World) (g : Nat) (l : List Nat) : Prop := ∃ cur, w.heap[g]? = some (.cells cur 89 (0, 0)) ∧ cur.toList.take l.length = cel l
theorem Rw32.cell {w : World} {g : Nat} {l : List Nat} (h : Rw32 w g l) (k : Nat) (hk : k < l.length) : w.cell? ⟨g, k, none⟩ = some (.int .u32 (l.getD k 0 : Nat)) := by
  obtain ⟨cur, h1, h2⟩ := h
  have := cel_get l k hk
  rw [← h2, List.getElem?_take_of_lt hk] at this
  unfold World.cell?
  rw [show w.heap[(⟨g, k, none⟩ : Addr).block]? = _ from h1]
  simpa using this
theorem Rw32.frozen {w : World} {g : Nat} {l : List Nat} (h : Rw32 w g l) (k : Nat) : w.frozen? ⟨g, k, none⟩ = false := by
  obtain ⟨cur, h1, _⟩ := h
  unfold World.frozen?
  rw [show w.heap[(⟨g, k, none⟩ : Addr).block]? = _ from h1]
  simp
theorem Rw32.lt {w : World} {g : Nat} {l : List Nat} (h : Rw32 w g l) : g < w.heap.size := by obtain ⟨cur, h1, _⟩ := h; exact (Array.getElem?_eq_some_iff.1 h1).1
theorem Rw32.keep {w w' : World} {g : Nat} {l : List Nat} (h : Rw32 w g l) (hb : Below w.heap.size w w') : Rw32 w' g l := by
  have hl := h.lt
  obtain ⟨cur, h1, h2⟩ := h
  exact ⟨cur, (hb.block g hl).trans h1, h2⟩
theorem Rw32.set {w : World} {g : Nat} {l : List Nat} (h : Rw32 w g l) (k x : Nat) : Rw32 (w.setCell ⟨g, k, none⟩ (.int .u32 (x : Int))) g (l.set k x) := by
  obtain ⟨cur, h1, h2⟩ := h
  refine ⟨cur.setIfInBounds k (.int .u32 (x : Int)), ?_, ?_⟩
  · unfold World.setCell
    simp only [Array.getElem?_modify, if_true]
    rw [show w.heap[g]? = _ from h1]
    rfl
  · rw [Array.toList_setIfInBounds, List.length_set, List.take_set, h2]
    simp [cel, List.map_set]
theorem Rw32.out {X : Nat → Prop} {w w' : World} {g : Nat} {l : List Nat} (h : Rw32 w g l) (ho : Out X w w') (hx : ¬ X g) : Rw32 w' g l := by
  have hl := h.lt
  obtain ⟨cur, h1, h2⟩ := h
  exact ⟨cur, (ho.block g hl hx).trans h1, h2⟩
theorem Rw32.u32 {w : World} {g : Nat} {l : List Nat} (h : Rw32 w g l) (hl : Limbs l) {c : Nat} (hc : l.length ≤ c) (hm : c ≤ maxLen) : U32 w (some ⟨g, 0, none⟩) c l :=
  ⟨hc, hm, hl, .inr ⟨g, 0, rfl, fun k hk => by simpa using h.cell k hk, by obtain ⟨cur, h1, _⟩ := h; unfold typOf; rw [h1]⟩⟩
theorem Blk.rw {w : World} {g : Nat} {l : List Nat} (h : Blk w g l) : Rw32 w g l := ⟨_, h, by rw [show ((cel l).toArray).toList = cel l from rfl, List.take_of_length_le (by rw [cel_len]; omega)]⟩
namespace Num
theorem less_step {O U V : List Nat} {k i c b t x : Nat} (hO : k + i < O.length) (hU : k + i < U.length) (hx : x = U.getD (k + i) 0)
    (h : win O k i + val (V.take i) * t = win U k i + (c + b) * BB ^ i) :
    ∀ cc c1 m r b1, cc = c + V.getD i 0 * t → cc = c1 * BB + m → r + m + b = x + b1 * BB → win (O.set (k + i) r) k (i + 1) + val (V.take (i + 1)) * t = win U k (i + 1) + (c1 + b1) * BB ^ (i + 1) := by
  intro cc c1 m r b1 h1 h2 h3
  rw [win_set_succ hO, win_succ hU, take_any, ← hx, Nat.pow_succ, Nat.mul_comm (BB ^ i) BB]
  exact less_arith h (h1 ▸ h2) h3
end Num
set_option maxRecDepth 100000 in
set_option maxHeartbeats 4000000 in
theorem less_c (g k n cu bv ov cv t : Nat) (U V : List Nat) (w : World) (hU : Rw32 w g U) (hUL : Limbs U) (hk : k + (n + 1) ≤ U.length) (hcu : n + 1 ≤ cu) (hkm : U.length ≤ 1099511627776) (hV : At32 w bv ov V) (hVL : Limbs V) (hVn : V.length = n) (hcv : n ≤ cv) (hg : bv ≠ g) (ht : t < BB) :
    Calls Tryd.prog 113 #[.slice (some ⟨g, k, none⟩) (n + 1) cu, .slice (some ⟨bv, ov, none⟩) n cv, .int .u64 (t : Int)] w fun e w' => (∃ (O : List Nat) (z : Nat), e = .returned (.bool (decide (0 < z))) ∧ z ≤ 1 ∧ Rw32 w' g O ∧ O.length = U.length ∧ Limbs O ∧ (∀ j, j < k ∨ k + (n + 1) ≤ j → O.getD j 0 = U.getD j 0) ∧ win O k (n + 1) + val V * t = win U k (n + 1) + z * BB ^ (n + 1)) ∧ Out (· = g) w w' := by
  go_enter Tryd.func113, Tryd.ntmps113
  go_wp2
  go_loopw [7, 8, 13] (fun cx bx x wr => ∃ (i c b : Nat) (O : List Nat), i ≤ n + 1 ∧ x = .int .i64 i ∧ cx = .int .u64 c ∧ bx = .int .u64 b ∧ c < BB ∧ b ≤ 1 ∧ Rw32 wr g O ∧ Hid (O.length = U.length) ∧ Limbs O ∧ Hid (∀ j, j < k ∨ k + i ≤ j → O.getD j 0 = U.getD j 0) ∧ Hid (win O k i + val (V.take i) * t = win U k i + (c + b) * BB ^ i) ∧ Hid (i = n + 1 → c = 0) ∧ Out (· = g) w wr) (fun _ _ x _ => n + 1 - (intOf x).toNat)
  case atStart => exact ⟨0, 0, 0, U, by omega, rfl, rfl, rfl, BB_pos, by omega, hU, Lib.hid rfl, hUL, Lib.hid (fun _ _ => rfl), Lib.hid (by simp [win_zero, val]), Lib.hid (fun h => rfl), Out.refl _ _⟩
  case round =>
    obtain ⟨i, c, b, O, hi, rfl, rfl, rfl, hcB, hb1, hO, hOl, hOL, hO0, hW, hCz, hOut⟩ := hrel
    have hol := hOl.out
    by_cases hlt : i < n + 1
    · have hltz : (i : Int) < (n : Int) + 1 := by omega
      have q0 := hO.cell (k + i) (by omega)
      have qf := hO.frozen (k + i)
      have hx := limb_get hOL (k + i)
      have hxe := hO0.out (k + i) (.inr (Nat.le_refl _))
      have HS := Lib.hid (less_step (O := O) (U := U) (V := V) (k := k) (i := i) (c := c) (b := b) (t := t) (x := O.getD (k + i) 0) (by omega) (by omega) hxe hW.out)
      clear hxe
      by_cases hiv : i < n
      · have d0 := okeep hOut (hV i (by omega)) hg
        have hy := limb_get hVL i
        have hcc : c + V.getD i 0 * t < BB * BB := by
          have h1 : V.getD i 0 * t ≤ (BB - 1) * (BB - 1) := Nat.mul_le_mul (by omega) (by omega)
          have h2 : (BB - 1) * (BB - 1) + (BB - 1) + (BB - 1) + 1 = BB * BB := by unfold BB; rfl
          omega
        generalize hye : V.getD i 0 = y at *
        generalize O.getD (k + i) 0 = x at *
        have e1 := w64 (BB_sq x hx)
        have e2 := w64 (BB_sq y hy)
        have e3 : IntKind.u64.wrap ((y : Int) * (t : Int)) = ((y * t : Nat) : Int) := by rw [← Int.natCast_mul]; exact w64 (by omega)
        have e3' : IntKind.u64.wrap ((c : Int) + ((y * t : Nat) : Int)) = ((c + y * t : Nat) : Int) := by rw [← Int.natCast_add]; exact w64 hcc
        obtain ⟨cc, hce⟩ : ∃ cc, cc = c + y * t := ⟨_, rfl⟩
        rw [← hce] at hcc e3'
        have HE := Lib.hid hce
        clear hce hye
        generalize y * t = yt at e3 e3' 
        obtain ⟨m, hm⟩ : ∃ m, m = cc % BB := ⟨_, rfl⟩
        obtain ⟨c1, h1⟩ : ∃ c1, c1 = cc / BB := ⟨_, rfl⟩
        have HZ := Lib.hid (show i + 1 = n + 1 → c1 = 0 from fun h => by omega)
        have hmB : m < BB := by rw [hm]; exact Nat.mod_lt _ BB_pos
        have h1B : c1 < BB := by rw [h1]; exact Nat.div_lt_of_lt_mul hcc
        have eand : bits .and .u64 (cc : Int) 4294967295 = (m : Int) := by
          rw [show (4294967295 : Int) = ((4294967295 : Nat) : Int) from rfl, bits_and_u64_nat cc 4294967295 (by unfold BB at hcc; omega) (by omega), show (4294967295 : Nat) = 2 ^ 32 - 1 from rfl, Nat.and_two_pow_sub_one_eq_mod, hm]; rfl
        have eshr : (cc : Int) / 4294967296 = (c1 : Int) := by unfold BB at h1; omega
        have HC := Lib.hid (show cc = c1 * BB + m by rw [h1, hm, Nat.mul_comm]; exact (Nat.div_add_mod cc BB).symm)
        clear hm h1
        by_cases hlow : m + b ≤ x
        · have e4 : IntKind.u64.wrap ((x : Int) - (m : Int)) = ((x - m : Nat) : Int) := by rw [show (x : Int) - (m : Int) = ((x - m : Nat) : Int) by omega]; exact w64 (by unfold BB at *; omega)
          have e5 : IntKind.u64.wrap (((x - m : Nat) : Int) - (b : Int)) = ((x - m - b : Nat) : Int) := by rw [show ((x - m : Nat) : Int) - (b : Int) = ((x - m - b : Nat) : Int) by omega]; exact w64 (by unfold BB at *; omega)
          have hr1 : x - m - b < BB := by omega
          have HR := Lib.hid (HS.out cc c1 m (x - m - b) 0 HE.out HC.out (by omega))
          generalize x - m - b = r at *
          generalize x - m = xm at *
          have e6 : (r : Int) / 4294967296 = 0 := by unfold BB at hr1; omega
          have e7 : (r : Int) % 4294967296 = (r : Int) := by unfold BB at hr1; omega
          have b0 : bits .and .u64 0 1 = 0 := by rfl
          have qb := hO.set (k + i) r
          have ql := limbs_set hOL (k := k + i) hr1
          have bs := hOut.set (p := ⟨g, k + i, none⟩) (fun _ => rfl) (.int .u32 (r : Int))
          have hrr := hr1
          clear hol HE hcc
          go_wp2
          refine ⟨⟨i + 1, c1, 0, O.set (k + i) r, by omega, by go_num, rfl, by first | rfl | simp, by omega, by omega, qb, Lib.hid (by simpa using hOl.out), ql, Lib.hid ?_, HR, HZ, bs⟩, by simp [intOf] <;> omega⟩
          intro j hj
          rw [getD_set_far (by omega)]
          exact hO0.out j (by omega)
        · have hD : 18446744073709551616 - (m + b - x) < 18446744073709551616 := by omega
          have hr1 : BB + x - m - b < BB := by omega
          have HR := Lib.hid (HS.out cc c1 m (BB + x - m - b) 1 HE.out HC.out (by omega))
          have e45 : ∃ X : Nat, IntKind.u64.wrap ((x : Int) - (m : Int)) = (X : Int) ∧ IntKind.u64.wrap ((X : Int) - (b : Int)) = ((18446744073709551616 - (m + b - x) : Nat) : Int) := by
            by_cases hxm : m ≤ x
            · refine ⟨x - m, ?_, ?_⟩
              · rw [show (x : Int) - (m : Int) = ((x - m : Nat) : Int) by omega]; exact w64 (by unfold BB at *; omega)
              · simp only [IntKind.wrap, IntKind.bits, IntKind.signed]
                simp
                unfold BB at *
                omega
            · refine ⟨18446744073709551616 - (m - x), ?_, ?_⟩
              · simp only [IntKind.wrap, IntKind.bits, IntKind.signed]
                simp
                unfold BB at *
                omega
              · simp only [IntKind.wrap, IntKind.bits, IntKind.signed]
                simp
                unfold BB at *
                omega
          obtain ⟨xm, e4, e5⟩ := e45
          have e7 : ((18446744073709551616 - (m + b - x) : Nat) : Int) % 4294967296 = ((BB + x - m - b : Nat) : Int) := by unfold BB at *; omega
          have e6 : ((18446744073709551616 - (m + b - x) : Nat) : Int) / 4294967296 = 4294967295 := by unfold BB at *; omega
          generalize 18446744073709551616 - (m + b - x) = D at e5 e6 e7 hD
          generalize BB + x - m - b = r at *
          have b0 : bits .and .u64 4294967295 1 = 1 := by rfl
          have qb := hO.set (k + i) r
          have ql := limbs_set hOL (k := k + i) hr1
          have bs := hOut.set (p := ⟨g, k + i, none⟩) (fun _ => rfl) (.int .u32 (r : Int))
          clear hol HE hcc
          go_wp2
          refine ⟨⟨i + 1, c1, 1, O.set (k + i) r, by omega, by go_num, rfl, by first | rfl | simp, by omega, by omega, qb, Lib.hid (by simpa using hOl.out), ql, Lib.hid ?_, HR, HZ, bs⟩, by simp [intOf] <;> omega⟩
          intro j hj
          rw [getD_set_far (by omega)]
          exact hO0.out j (by omega)
      · obtain rfl : i = n := by omega
        have hy0 : V.getD i 0 = 0 := by simp [hVn]
        rw [hy0] at HS
        have hcc : c < BB * BB := BB_sq c hcB
        generalize O.getD (k + i) 0 = x at *
        have e1 := w64 (BB_sq x hx)
        obtain ⟨cc, hce⟩ : ∃ cc, cc = c := ⟨_, rfl⟩
        have HE := Lib.hid (show cc = c + 0 * t by omega)
        subst hce
        clear hy0
        obtain ⟨m, hm⟩ : ∃ m, m = cc % BB := ⟨_, rfl⟩
        obtain ⟨c1, h1⟩ : ∃ c1, c1 = cc / BB := ⟨_, rfl⟩
        have HZ := Lib.hid (show i + 1 = i + 1 → c1 = 0 from fun _ => by rw [h1]; exact Nat.div_eq_of_lt hcB)
        have hmB : m < BB := by rw [hm]; exact Nat.mod_lt _ BB_pos
        have h1B : c1 < BB := by rw [h1]; exact Nat.div_lt_of_lt_mul hcc
        have eand : bits .and .u64 (cc : Int) 4294967295 = (m : Int) := by
          rw [show (4294967295 : Int) = ((4294967295 : Nat) : Int) from rfl, bits_and_u64_nat cc 4294967295 (by unfold BB at hcc; omega) (by omega), show (4294967295 : Nat) = 2 ^ 32 - 1 from rfl, Nat.and_two_pow_sub_one_eq_mod, hm]; rfl
        have eshr : (cc : Int) / 4294967296 = (c1 : Int) := by unfold BB at h1; omega
        have HC := Lib.hid (show cc = c1 * BB + m by rw [h1, hm, Nat.mul_comm]; exact (Nat.div_add_mod cc BB).symm)
        clear hm h1
        by_cases hlow : m + b ≤ x
        · have e4 : IntKind.u64.wrap ((x : Int) - (m : Int)) = ((x - m : Nat) : Int) := by rw [show (x : Int) - (m : Int) = ((x - m : Nat) : Int) by omega]; exact w64 (by unfold BB at *; omega)
          have e5 : IntKind.u64.wrap (((x - m : Nat) : Int) - (b : Int)) = ((x - m - b : Nat) : Int) := by rw [show ((x - m : Nat) : Int) - (b : Int) = ((x - m - b : Nat) : Int) by omega]; exact w64 (by unfold BB at *; omega)
          have hr1 : x - m - b < BB := by omega
          have HR := Lib.hid (HS.out cc c1 m (x - m - b) 0 HE.out HC.out (by omega))
          generalize x - m - b = r at *
          generalize x - m = xm at *
          have e6 : (r : Int) / 4294967296 = 0 := by unfold BB at hr1; omega
          have e7 : (r : Int) % 4294967296 = (r : Int) := by unfold BB at hr1; omega
          have b0 : bits .and .u64 0 1 = 0 := by rfl
          have qb := hO.set (k + i) r
          have ql := limbs_set hOL (k := k + i) hr1
          have bs := hOut.set (p := ⟨g, k + i, none⟩) (fun _ => rfl) (.int .u32 (r : Int))
          have hrr := hr1
          clear hol HE hcc
          go_wp2
          refine ⟨⟨i + 1, c1, 0, O.set (k + i) r, by omega, by go_num, rfl, by first | rfl | simp, by omega, by omega, qb, Lib.hid (by simpa using hOl.out), ql, Lib.hid ?_, HR, HZ, bs⟩, by simp [intOf] <;> omega⟩
          intro j hj
          rw [getD_set_far (by omega)]
          exact hO0.out j (by omega)
        · have hD : 18446744073709551616 - (m + b - x) < 18446744073709551616 := by omega
          have hr1 : BB + x - m - b < BB := by omega
          have HR := Lib.hid (HS.out cc c1 m (BB + x - m - b) 1 HE.out HC.out (by omega))
          have e45 : ∃ X : Nat, IntKind.u64.wrap ((x : Int) - (m : Int)) = (X : Int) ∧ IntKind.u64.wrap ((X : Int) - (b : Int)) = ((18446744073709551616 - (m + b - x) : Nat) : Int) := by
            by_cases hxm : m ≤ x
            · refine ⟨x - m, ?_, ?_⟩
              · rw [show (x : Int) - (m : Int) = ((x - m : Nat) : Int) by omega]; exact w64 (by unfold BB at *; omega)
              · simp only [IntKind.wrap, IntKind.bits, IntKind.signed]
                simp
                unfold BB at *
                omega
            · refine ⟨18446744073709551616 - (m - x), ?_, ?_⟩
              · simp only [IntKind.wrap, IntKind.bits, IntKind.signed]
                simp
                unfold BB at *
                omega
              · simp only [IntKind.wrap, IntKind.bits, IntKind.signed]
                simp
                unfold BB at *
                omega
          obtain ⟨xm, e4, e5⟩ := e45
          have e7 : ((18446744073709551616 - (m + b - x) : Nat) : Int) % 4294967296 = ((BB + x - m - b : Nat) : Int) := by unfold BB at *; omega
          have e6 : ((18446744073709551616 - (m + b - x) : Nat) : Int) / 4294967296 = 4294967295 := by unfold BB at *; omega
          generalize 18446744073709551616 - (m + b - x) = D at e5 e6 e7 hD
          generalize BB + x - m - b = r at *
          have b0 : bits .and .u64 4294967295 1 = 1 := by rfl
          have qb := hO.set (k + i) r
          have ql := limbs_set hOL (k := k + i) hr1
          have bs := hOut.set (p := ⟨g, k + i, none⟩) (fun _ => rfl) (.int .u32 (r : Int))
          clear hol HE hcc
          go_wp2
          refine ⟨⟨i + 1, c1, 1, O.set (k + i) r, by omega, by go_num, rfl, by first | rfl | simp, by omega, by omega, qb, Lib.hid (by simpa using hOl.out), ql, Lib.hid ?_, HR, HZ, bs⟩, by simp [intOf] <;> omega⟩
          intro j hj
          rw [getD_set_far (by omega)]
          exact hO0.out j (by omega)
    · obtain rfl : i = n + 1 := by omega
      have HW := Lib.hid (show c = 0 ∧ win O k (n + 1) + val V * t = win U k (n + 1) + b * BB ^ (n + 1) by
        have h := hW.out
        rw [List.take_of_length_le (by omega)] at h
        have h0 : c = 0 := hCz.out rfl
        subst h0
        exact ⟨rfl, by simpa using h⟩)
      clear hol
      go_wp2
      go_ret
      exact ⟨⟨O, b, by simp, hb1, hO, hOl.out, hOL, hO0.out, HW.out.2⟩, hOut⟩
end Go.Proofs.YthaohpfbengabaaDoor

/- limb: digit (a limb of a quotient). -/
namespace Go.Proofs.YthaohpfbengabaaDoor
open Num
open Go.ChangeShapes Go.WideShapes Go.ChangeAt Go.RowKit
set_option linter.unusedVariables false
set_option linter.unusedSimpArgs false
namespace Num
theorem back_step {O U V : List Nat} {k i c x : Nat} (hO : k + i < O.length) (hU : k + i < U.length) (hx : x = U.getD (k + i) 0)
    (h : win O k i + c * BB ^ i = win U k i + val (V.take i)) :
    ∀ cc, cc = c + x + V.getD i 0 → win (O.set (k + i) (cc % BB)) k (i + 1) + cc / BB * BB ^ (i + 1) = win U k (i + 1) + val (V.take (i + 1)) := by
  intro cc h1
  rw [win_set_succ hO, win_succ hU, take_any, ← hx, Nat.pow_succ, Nat.mul_comm (BB ^ i) BB]
  have := back_arith (r := cc % BB) (c1 := cc / BB) (B := BB) h (vi := V.getD i 0) (ui := x) (by rw [← h1, Nat.mul_comm]; exact (Nat.div_add_mod cc BB).symm)
  omega
/-- what the guess is, before and behind the mending -/
structure Guess (N D v1 v2 u2 high g r : Nat) : Prop where
  sum : g * v1 + r = high
  low : N / D ≤ g
  high : g ≤ BB + 1
/-- a guess that is good -/
def KGood (N D g : Nat) : Prop := N / D ≤ g ∧ g < BB ∧ g * D < N + D
end Num
/-- the setting of a digit's division -/
structure DigSet (N D v1 v2 low high u2 lowN P2 : Nat) : Prop where
  hP : 0 < P2
  hD : D = v1 * (BB * P2) + v2 * P2 + low
  hN : N = high * (BB * P2) + u2 * P2 + lowN
  hl : low < P2
  hlN : lowN < P2
  hv1 : 2147483648 ≤ v1
  hv1B : v1 < BB
  hv2 : v2 < BB
  hu2 : u2 < BB
  hND : N < D * BB
namespace Num
theorem digSet_high {N D v1 v2 low high u2 lowN P2 : Nat} (h : DigSet N D v1 v2 low high u2 lowN P2) : high / v1 ≤ BB + 1 := by
  obtain ⟨hP, hD, hN, hl, hlN, hv1, hv1B, hv2, hu2, hND⟩ := h
  have h2 := low_two hv2 hl
  have h3 : D ≤ (v1 + 1) * (BB * P2) := by rw [Nat.add_mul]; omega
  have h4 : high * (BB * P2) < (v1 + 1) * BB * (BB * P2) := by
    have : D * BB ≤ (v1 + 1) * (BB * P2) * BB := Nat.mul_le_mul h3 (Nat.le_refl _)
    have e : (v1 + 1) * (BB * P2) * BB = (v1 + 1) * BB * (BB * P2) := by ac_rfl
    omega
  have h5 : high < (v1 + 1) * BB := Nat.lt_of_mul_lt_mul_right h4
  have h6 : high / v1 < BB + 2 := by
    rw [Nat.div_lt_iff_lt_mul (by omega), Nat.add_mul]
    rw [Nat.add_mul, Nat.mul_comm v1] at h5
    unfold BB at *
    omega
  omega
theorem digSet_first {N D v1 v2 low high u2 lowN P2 : Nat} (h : DigSet N D v1 v2 low high u2 lowN P2) : Guess N D v1 v2 u2 high (high / v1) (high % v1) := by
  have hb := digSet_high h
  obtain ⟨hP, hD, hN, hl, hlN, hv1, hv1B, hv2, hu2, hND⟩ := h
  refine ⟨by rw [Nat.mul_comm]; exact Nat.div_add_mod _ _, ?_, hb⟩
  have h2 := low_two hu2 hlN
  refine kn_first (P1 := BB * P2) (Nat.mul_pos BB_pos hP) (by omega) ?_ ?_ (by omega)
  · rw [Nat.add_mul]; omega
  · have : 1 * (BB * P2) ≤ v1 * (BB * P2) := Nat.mul_le_mul (by omega) (Nat.le_refl _)
    have : 0 < BB * P2 := Nat.mul_pos BB_pos hP
    omega
theorem digSet_pos {N D v1 v2 low high u2 lowN P2 : Nat} (h : DigSet N D v1 v2 low high u2 lowN P2) : 0 < D := by
  obtain ⟨hP, hD, hN, hl, hlN, hv1, hv1B, hv2, hu2, hND⟩ := h
  have : 1 * (BB * P2) ≤ v1 * (BB * P2) := Nat.mul_le_mul (by omega) (Nat.le_refl _)
  have : 0 < BB * P2 := Nat.mul_pos BB_pos hP
  omega
/-- one step of the mending -/
theorem digSet_step {N D v1 v2 low high u2 lowN P2 g r : Nat} (h : DigSet N D v1 v2 low high u2 lowN P2) (hg : Guess N D v1 v2 u2 high g r) (ht : BB ≤ g ∨ r * BB + u2 < g * v2) :
    0 < g ∧ Guess N D v1 v2 u2 high (g - 1) (r + v1) := by
  have hp := digSet_pos h
  obtain ⟨hP, hD, hN, hl, hlN, hv1, hv1B, hv2, hu2, hND⟩ := h
  obtain ⟨h1, h2, h3⟩ := hg
  have hlt : N / D < g := by
    rcases ht with ht | ht
    · exact Nat.lt_of_lt_of_le (kn_big hND) ht
    · exact kn_step hP hp hD hN hlN h1 ht
  refine ⟨Nat.lt_of_le_of_lt (Nat.zero_le _) hlt, ?_, Nat.le_sub_one_of_lt hlt, by omega⟩
  obtain ⟨k, rfl⟩  : ∃ k, g = k + 1 := ⟨g - 1, (Nat.succ_pred_eq_of_pos (Nat.lt_of_le_of_lt (Nat.zero_le _) hlt)).symm⟩
  rw [Nat.add_mul] at h1
  simp only [Nat.add_sub_cancel]
  omega
/-- the mending ends: the test says no -/
theorem digSet_good {N D v1 v2 low high u2 lowN P2 g r : Nat} (h : DigSet N D v1 v2 low high u2 lowN P2) (hg : Guess N D v1 v2 u2 high g r) (h1 : g < BB) (h2 : g * v2 ≤ r * BB + u2) : KGood N D g := by
  obtain ⟨hP, hD, hN, hl, hlN, hv1, hv1B, hv2, hu2, hND⟩ := h
  exact ⟨hg.low, h1, kn_exit (by omega) BB_pos h1 hl hD hN hg.sum h2⟩
/-- .. or the rest has grown out -/
theorem digSet_far {N D v1 v2 low high u2 lowN P2 g r : Nat} (h : DigSet N D v1 v2 low high u2 lowN P2) (hg : Guess N D v1 v2 u2 high g r) (h1 : g ≤ BB) (h2 : BB ≤ r) : KGood N D g := by
  have hp := digSet_pos h
  obtain ⟨hP, hD, hN, hl, hlN, hv1, hv1B, hv2, hu2, hND⟩ := h
  have h3 := kn_far (low_two hv2 hl) hD hN hg.sum (by omega)
  have h4 : g ≤ N / D := by rw [Nat.le_div_iff_mul_le hp]; exact h3
  have h5 := kn_big hND
  exact ⟨hg.low, Nat.lt_of_le_of_lt h4 h5, by omega⟩
end Num

set_option maxRecDepth 100000 in
set_option maxHeartbeats 8000000 in
theorem digit_core (g k n n1 m L cu bv ov cv : Nat) (U V : List Nat) (N D v1 v2 u0 u1 u2 low lowN P2 : Nat) (w : World) (en : m = n1 + 1) (en1 : n1 = n + 1) (eL : L = m + 1) (hN : n ≤ 1099511627776)
    (hU : Rw32 w g U) (hV : At32 w bv ov V) (hg : bv ≠ g) (hkU : k + L ≤ U.length) (hVn : V.length = m) (hUL : Limbs U) (hVL : Limbs V)
    (eN : win U k L = N) (eD : val V = D) (hset : DigSet N D v1 v2 low (u0 * BB + u1) u2 lowN P2)
    (c0 : w.cell? ⟨g, k + m, none⟩ = some (.int .u32 (u0 : Int))) (c1 : w.cell? ⟨g, k + n1, none⟩ = some (.int .u32 (u1 : Int))) (c2 : w.cell? ⟨g, k + n, none⟩ = some (.int .u32 (u2 : Int)))
    (d1 : w.cell? ⟨bv, ov + n1, none⟩ = some (.int .u32 (v1 : Int))) (d2 : w.cell? ⟨bv, ov + n, none⟩ = some (.int .u32 (v2 : Int))) (hu0 : u0 < BB) (hu1 : u1 < BB) (hcu : L ≤ cu) (hcv : m ≤ cv) (HUm : U.length ≤ 1099511627776) :
    Calls Tryd.prog 104 #[.slice (some ⟨g, k, none⟩) L cu, .slice (some ⟨bv, ov, none⟩) m cv] w fun e w' => (∃ (O : List Nat), e = .returned (.int .u32 ((N / D : Nat) : Int)) ∧ Rw32 w' g O ∧ O.length = U.length ∧ Limbs O ∧ (∀ j, j < k ∨ k + L ≤ j → O.getD j 0 = U.getD j 0) ∧ win O k L = N % D) ∧ Out (· = g) w w' := by
  have hv1 := hset.hv1
  have hv1B := hset.hv1B
  have hv2 := hset.hv2
  have hu2 := hset.hu2
  have hfirst := digSet_first hset
  have HSet := Lib.hid hset
  clear hset
  have e51 : IntKind.i64.wrap ((m : Int) - 1) = (n1 : Int) := by rw [IntKind.wrap_i64]; omega
  have e52 : IntKind.i64.wrap ((m : Int) - 2) = (n : Int) := by rw [IntKind.wrap_i64]; omega
  have l0 : (m : Int) < (L : Int) := by omega
  have l1 : (n1 : Int) < (L : Int) := by omega
  have l2 : (n : Int) < (L : Int) := by omega
  have l3 : (n1 : Int) < (m : Int) := by omega
  have l4 : (n : Int) < (m : Int) := by omega
  have x0 := w64 (BB_sq u0 hu0)
  have x1 := w64 (BB_sq u1 hu1)
  have x2 := w64 (BB_sq u2 hu2)
  have y1 := w64 (BB_sq v1 hv1B)
  have y2 := w64 (BB_sq v2 hv2)
  have o1 : bits .or .u64 ((u0 : Int) * 4294967296) (u1 : Int) = ((u0 * BB + u1 : Nat) : Int) := by rw [← hi_or hu0 hu1, Int.natCast_mul]; rfl
  have o2 : bits .or .u64 (IntKind.u64.wrap ((u0 : Int) * 4294967296)) (u1 : Int) = ((u0 * BB + u1 : Nat) : Int) := by rw [show (u0 : Int) * 4294967296 = ((u0 * BB : Nat) : Int) by rw [Int.natCast_mul]; rfl, w64 (by unfold BB at *; omega), hi_or hu0 hu1]
  have hu0B : (u0 : Int) < 4294967296 := by unfold BB at hu0; omega
  have hv1z : ((v1 : Int) == 0) = false := by simp; omega
  generalize hHi : u0 * BB + u1 = hi at *
  have t1 : (hi : Int).tdiv (v1 : Int) = ((hi / v1 : Nat) : Int) := rfl
  have t2 : (hi : Int).tmod (v1 : Int) = ((hi % v1 : Nat) : Int) := rfl
  have t3 : (hi : Int) / (v1 : Int) = ((hi / v1 : Nat) : Int) := rfl
  have t4 : (hi : Int) % (v1 : Int) = ((hi % v1 : Nat) : Int) := rfl
  have hr0 : hi % v1 < v1 := Nat.mod_lt _ (by omega)
  generalize hi / v1 = q0 at *
  generalize hi % v1 = r0 at *
  have HF := Lib.hid hfirst
  have hB := Below.refl w.heap.size w
  have HEN := Lib.hid (And.intro en (And.intro en1 eL))
  clear hfirst en en1 eL hHi
  go_enter Tryd.func104, Tryd.ntmps104
  go_wp2
  go_step3
  go_wp2
  go_quiet (fail)
  go_wp2
  have wq0 : IntKind.u64.wrap (q0 : Int) = (q0 : Int) := w64 (by have := HF.out.high; unfold BB at *; omega)
  go_quiet (fail)
  go_wp2
  clear t1 t2 t3 t4 o1 o2 wq0 hv1z
  go_step3
  go_wp2
  go_loopw [7, 8] (fun gx rx wr => ∃ (q r : Nat), gx = .int .u64 q ∧ rx = .int .u64 r ∧ Hid (Guess N D v1 v2 u2 hi q r) ∧ r < BB ∧ Below w.heap.size w wr) (fun gx _ _ => (intOf gx).toNat)
  case atStart => exact ⟨q0, r0, rfl, rfl, HF, by omega, by repeat (first | exact Below.refl _ _ | exact hB | refine Below.drew ?_ | refine below_drewN ?_ _ | refine bset ?_ (by simp <;> omega) _ | refine bal ?_ _)⟩
  case round =>
    obtain ⟨q, r, rfl, rfl, hG, hr, hb⟩ := hrel
    have hqB := hG.out.high
    have cc0 := bkeep hb c0
    have cc1 := bkeep hb c1
    have cc2 := bkeep hb c2
    have dd1 := bkeep hb d1
    have dd2 := bkeep hb d2
    clear c0 c1 c2 d1 d2 hB x0 x1
    by_cases hq : BB ≤ q
    · have eg : (q : Int) / 4294967296 = 1 := by unfold BB at *; omega
      obtain ⟨hq0, hG2⟩ := digSet_step HSet.out hG.out (.inl hq)
      have em : IntKind.u64.wrap ((q : Int) - 1) = ((q - 1 : Nat) : Int) := by rw [show (q : Int) - 1 = ((q - 1 : Nat) : Int) by omega]; exact w64 (by unfold BB at *; omega)
      have ea : IntKind.u64.wrap ((r : Int) + (v1 : Int)) = ((r + v1 : Nat) : Int) := by rw [← Int.natCast_add]; exact w64 (by unfold BB at *; omega)
      by_cases hfar : BB ≤ r + v1
      · have HK := Lib.hid (digSet_far HSet.out hG2 (by omega) hfar)
        have ez : ((r + v1 : Nat) : Int) / 4294967296 = 1 := by unfold BB at *; omega
        generalize q - 1 = q1 at *
        generalize r + v1 = r1 at *
        clear hG2
        go_wp2
        go_quiet (fail)
        have lc := fun W (h : Below w.heap.size w W) => less_c g k m cu bv ov cv q1 U V W (hU.keep h) hUL (by have := HEN.out; omega) (by have := HEN.out; omega) HUm ⟨fun j hj => bkeep h (hV j hj), typ_keep hV.ty h⟩ hVL hVn hcv hg HK.out.2.1
        rw [eD, show m + 1 = L from (HEN.out.2.2).symm, eN] at lc
        go_wp2_with fail
        refine (lc _ (by repeat (first | exact Below.refl _ _ | exact hb | refine Below.drew ?_ | refine below_drewN ?_ _ | refine bset ?_ (by simp <;> omega) _ | refine bal ?_ _))).mono ?_
        rintro e w2 ⟨⟨O, z, rfl, hz, hO, hol, hOL, hO0, hW⟩, hOut⟩
        have hqq := HK.out.2.1
        have hO2 : Out (· = g) w w2 := (Out.of_below _ (show Below w.heap.size w _ by repeat (first | exact Below.refl _ _ | exact hb | refine Below.drew ?_ | refine below_drewN ?_ _ | refine bset ?_ (by simp <;> omega) _ | refine bal ?_ _))).trans hOut
        clear lc hOut
        rcases (show z = 0 ∨ z = 1 by omega) with rfl | rfl
        · have HD := Lib.hid (kn_done (digSet_pos HSet.out) HK.out.1 (by rw [Nat.zero_mul, Nat.add_zero] at hW; exact hW))
          have hd : decide (0 < 0) = false := rfl
          have eq : (q1 : Int) % 4294967296 = (q1 : Int) := by unfold BB at hqq; omega
          clear hW
          go_wp2
          rw [Exit.noGoto_ret]
          go_ret
          exact ⟨⟨O, by rw [HD.out.1]; rfl, hO, hol, hOL, hO0, HD.out.2.symm⟩, hO2⟩
        · have HD := Lib.hid (kn_over (P := BB ^ L) (digSet_pos HSet.out) HK.out.2.2 (win_lt hOL k L) (by rw [Nat.one_mul] at hW; exact hW))
          have hd : decide (0 < 1) = true := rfl
          have eq1 : IntKind.u64.wrap ((q1 : Int) - 1) = ((N / D : Nat) : Int) := by
            have h := HD.out.1
            generalize N / D = nd at *
            rw [show (q1 : Int) - 1 = (nd : Int) by omega]; exact w64 (by unfold BB at *; omega)
          have eq2 : ((N / D : Nat) : Int) % 4294967296 = ((N / D : Nat) : Int) := by
            have h := HD.out.1
            generalize N / D = nd at *
            unfold BB at hqq; omega
          have HO0 := Lib.hid hO0
          have HOl := Lib.hid hol
          clear hW hO0
          obtain ⟨nd, hnd⟩ : ∃ nd, nd = N / D := ⟨_, rfl⟩
          rw [← hnd] at eq1 eq2
          have HND := Lib.hid hnd
          clear hnd
          go_wp2
          go_loopw [9, 89] (fun cx x wr => ∃ (i c : Nat) (Z : List Nat), i ≤ L ∧ x = .int .i64 i ∧ cx = .int .u64 c ∧ c < BB ∧ Rw32 wr g Z ∧ Hid (Z.length = U.length) ∧ Limbs Z ∧ Hid (∀ j, j < k ∨ k + i ≤ j → Z.getD j 0 = O.getD j 0) ∧ Hid (win Z k i + c * BB ^ i = win O k i + val (V.take i)) ∧ Out (· = g) w wr) (fun _ x _ => L - (intOf x).toNat)
          case atStart => exact ⟨0, 0, O, by omega, rfl, rfl, BB_pos, hO, HOl, hOL, Lib.hid (fun _ _ => rfl), Lib.hid (by simp [win_zero, val]), hO2⟩
          case round =>
            rename World => wi
            obtain ⟨i, c, Z, hi, rfl, rfl, hcB, hZ, hZl, hZL, hZ0, hZW, hOut⟩ := hrel
            have hzl := hZl.out
            by_cases hlt : i < L
            · have hltz : (i : Int) < (L : Int) := by omega
              have q0 := hZ.cell (k + i) (by omega)
              have qf := hZ.frozen (k + i)
              have hx := limb_get hZL (k + i)
              have HS := Lib.hid (back_step (O := Z) (U := O) (V := V) (k := k) (i := i) (c := c) (x := Z.getD (k + i) 0) (by omega) (by have := HOl.out; omega) (hZ0.out (k + i) (.inr (Nat.le_refl _))) hZW.out)
              by_cases him : i < m
              · have himz : (i : Int) < (m : Int) := by omega
                have dd0 := okeep hOut (hV i (by omega)) hg
                have hy := limb_get hVL i
                generalize V.getD i 0 = y at *
                generalize Z.getD (k + i) 0 = x at *
                have f1 := w64 (BB_sq x hx)
                have f2 := w64 (BB_sq y hy)
                have f3 : IntKind.u64.wrap ((c : Int) + (x : Int)) = ((c + x : Nat) : Int) := by rw [← Int.natCast_add]; exact w64 (by unfold BB at *; omega)
                have f4 : IntKind.u64.wrap (((c + x : Nat) : Int) + (y : Int)) = ((c + x + y : Nat) : Int) := by rw [← Int.natCast_add]; exact w64 (by unfold BB at *; omega)
                have HS2 := Lib.hid (HS.out (c + x + y) rfl)
                have hT : c + x + y < BB * BB := by unfold BB at *; omega
                have hdB : (c + x + y) / BB < BB := Nat.div_lt_of_lt_mul hT
                have hmB : (c + x + y) % BB < BB := Nat.mod_lt _ BB_pos
                obtain ⟨lo, hlo⟩ : ∃ lo, lo = (c + x + y) % BB := ⟨_, rfl⟩
                obtain ⟨up, hup⟩ : ∃ up, up = (c + x + y) / BB := ⟨_, rfl⟩
                rw [← hlo] at HS2 hmB
                rw [← hup] at HS2 hdB
                have g0 : IntKind.u64.wrap ((c : Int) + (x : Int) + (y : Int)) = (c : Int) + (x : Int) + (y : Int) := by rw [show ((c : Int) + (x : Int) + (y : Int)) = ((c + x + y : Nat) : Int) by omega]; exact w64 hT
                have g1 : ((c : Int) + (x : Int) + (y : Int)) % 4294967296 = (lo : Int) := by unfold BB at hlo; omega
                have g2 : ((c : Int) + (x : Int) + (y : Int)) / 4294967296 = (up : Int) := by unfold BB at hup; omega
                have qb := hZ.set (k + i) lo
                have ql := limbs_set hZL (k := k + i) hmB
                have bs := hOut.set (p := ⟨g, k + i, none⟩) (fun _ => rfl) (.int .u32 (lo : Int))
                clear hzl hlo hup hT HS hol
                go_wp2
                refine ⟨⟨i + 1, up, Z.set (k + i) lo, by omega, by go_num, rfl, hdB, qb, Lib.hid (by simpa using hZl.out), ql, Lib.hid ?_, HS2, bs⟩, by simp [intOf] <;> omega⟩
                intro j hj
                rw [getD_set_far (by omega)]
                exact hZ0.out j (by omega)
              · have hy0 : V.getD i 0 = 0 := by simp [show V.length ≤ i by omega]
                rw [hy0] at HS
                have him' : decide (i < m) = false := by simpa using him
                generalize Z.getD (k + i) 0 = x at *
                have f1 := w64 (BB_sq x hx)
                have f3 : IntKind.u64.wrap ((c : Int) + (x : Int)) = ((c + x : Nat) : Int) := by rw [← Int.natCast_add]; exact w64 (by unfold BB at *; omega)
                have HS2 := Lib.hid (HS.out (c + x) rfl)
                have hT : c + x < BB * BB := by unfold BB at *; omega
                have hdB : (c + x) / BB < BB := Nat.div_lt_of_lt_mul hT
                have hmB : (c + x) % BB < BB := Nat.mod_lt _ BB_pos
                obtain ⟨lo, hlo⟩ : ∃ lo, lo = (c + x) % BB := ⟨_, rfl⟩
                obtain ⟨up, hup⟩ : ∃ up, up = (c + x) / BB := ⟨_, rfl⟩
                rw [← hlo] at HS2 hmB
                rw [← hup] at HS2 hdB
                have g0 : IntKind.u64.wrap ((c : Int) + (x : Int)) = (c : Int) + (x : Int) := by rw [show ((c : Int) + (x : Int)) = ((c + x : Nat) : Int) by omega]; exact w64 hT
                have g1 : ((c : Int) + (x : Int)) % 4294967296 = (lo : Int) := by unfold BB at hlo; omega
                have g2 : ((c : Int) + (x : Int)) / 4294967296 = (up : Int) := by unfold BB at hup; omega
                have qb := hZ.set (k + i) lo
                have ql := limbs_set hZL (k := k + i) hmB
                have bs := hOut.set (p := ⟨g, k + i, none⟩) (fun _ => rfl) (.int .u32 (lo : Int))
                clear hzl hlo hup hT HS hol
                go_wp2
                refine ⟨⟨i + 1, up, Z.set (k + i) lo, by omega, by go_num, rfl, hdB, qb, Lib.hid (by simpa using hZl.out), ql, Lib.hid ?_, HS2, bs⟩, by simp [intOf] <;> omega⟩
                intro j hj
                rw [getD_set_far (by omega)]
                exact hZ0.out j (by omega)
            · obtain rfl : i = L := by omega
              have HR := Lib.hid (show win Z k i = N % D by
                have h := hZW.out
                rw [List.take_of_length_le (by have := HEN.out; omega), eD, HD.out.2] at h
                refine kn_back (P := BB ^ i) (Nat.lt_of_lt_of_le (Nat.mod_lt _ (digSet_pos HSet.out)) ?_) (win_lt hZL k i) h
                rw [← eD]
                refine Nat.le_of_lt (Nat.lt_of_lt_of_le (val_lt hVL) (Nat.pow_le_pow_right BB_pos (by have := HEN.out; omega))))
              have HZ0 := Lib.hid (show ∀ j, j < k ∨ k + i ≤ j → Z.getD j 0 = U.getD j 0 from fun j hj => (hZ0.out j hj).trans (HO0.out j hj))
              clear hzl hol
              go_wp2
              rw [Exit.noGoto_ret]
              go_ret
              exact ⟨⟨Z, by rw [← HND.out]; rfl, hZ, hZl.out, hZL, HZ0.out, HR.out⟩, hOut⟩
      · have ez : ((r + v1 : Nat) : Int) / 4294967296 = 0 := by unfold BB at *; omega
        have hlt : q - 1 < q := by omega
        generalize q - 1 = q1 at *
        generalize r + v1 = r1 at *
        have HG2 := Lib.hid hG2
        clear hG2
        go_wp2
        go_quiet (fail)
        go_wp2
        exact ⟨⟨q1, r1, rfl, rfl, HG2, by omega, by repeat (first | exact Below.refl _ _ | exact hb | refine Below.drew ?_ | refine below_drewN ?_ _ | refine bset ?_ (by simp <;> omega) _ | refine bal ?_ _)⟩, by simp [intOf]; omega⟩
    · have eg : (q : Int) / 4294967296 = 0 := by unfold BB at *; omega
      have hrz : (r : Int) < 4294967296 := by unfold BB at hr; omega
      have hqv : q * v2 < BB * BB := Nat.mul_lt_mul'' (by omega) hv2
      have ep : IntKind.u64.wrap ((q : Int) * (v2 : Int)) = ((q * v2 : Nat) : Int) := by rw [← Int.natCast_mul]; exact w64 hqv
      have eo : bits .or .u64 ((r : Int) * 4294967296) (u2 : Int) = ((r * BB + u2 : Nat) : Int) := by rw [← hi_or hr hu2, Int.natCast_mul]; rfl
      by_cases ht : r * BB + u2 < q * v2
      · have HT := Lib.hid ht
        generalize q * v2 = p at ep ht hqv
        generalize r * BB + u2 = z at eo ht
        have htz : (z : Int) < (p : Int) := by omega
        clear ht
        obtain ⟨hq0, hG2⟩ := digSet_step HSet.out hG.out (.inr HT.out)
        have em : IntKind.u64.wrap ((q : Int) - 1) = ((q - 1 : Nat) : Int) := by rw [show (q : Int) - 1 = ((q - 1 : Nat) : Int) by omega]; exact w64 (by unfold BB at *; omega)
        have ea : IntKind.u64.wrap ((r : Int) + (v1 : Int)) = ((r + v1 : Nat) : Int) := by rw [← Int.natCast_add]; exact w64 (by unfold BB at *; omega)
        by_cases hfar : BB ≤ r + v1
        · have HK := Lib.hid (digSet_far HSet.out hG2 (by omega) hfar)
          have ez : ((r + v1 : Nat) : Int) / 4294967296 = 1 := by unfold BB at *; omega
          generalize q - 1 = q1 at *
          generalize r + v1 = r1 at *
          clear hG2
          go_wp2
          go_quiet (fail)
          have lc := fun W (h : Below w.heap.size w W) => less_c g k m cu bv ov cv q1 U V W (hU.keep h) hUL (by have := HEN.out; omega) (by have := HEN.out; omega) HUm ⟨fun j hj => bkeep h (hV j hj), typ_keep hV.ty h⟩ hVL hVn hcv hg HK.out.2.1
          rw [eD, show m + 1 = L from (HEN.out.2.2).symm, eN] at lc
          go_wp2_with fail
          refine (lc _ (by repeat (first | exact Below.refl _ _ | exact hb | refine Below.drew ?_ | refine below_drewN ?_ _ | refine bset ?_ (by simp <;> omega) _ | refine bal ?_ _))).mono ?_
          rintro e w2 ⟨⟨O, z, rfl, hz, hO, hol, hOL, hO0, hW⟩, hOut⟩
          have hqq := HK.out.2.1
          have hO2 : Out (· = g) w w2 := (Out.of_below _ (show Below w.heap.size w _ by repeat (first | exact Below.refl _ _ | exact hb | refine Below.drew ?_ | refine below_drewN ?_ _ | refine bset ?_ (by simp <;> omega) _ | refine bal ?_ _))).trans hOut
          clear lc hOut
          rcases (show z = 0 ∨ z = 1 by omega) with rfl | rfl
          · have HD := Lib.hid (kn_done (digSet_pos HSet.out) HK.out.1 (by rw [Nat.zero_mul, Nat.add_zero] at hW; exact hW))
            have hd : decide (0 < 0) = false := rfl
            have eq : (q1 : Int) % 4294967296 = (q1 : Int) := by unfold BB at hqq; omega
            clear hW
            go_wp2
            rw [Exit.noGoto_ret]
            go_ret
            exact ⟨⟨O, by rw [HD.out.1]; rfl, hO, hol, hOL, hO0, HD.out.2.symm⟩, hO2⟩
          · have HD := Lib.hid (kn_over (P := BB ^ L) (digSet_pos HSet.out) HK.out.2.2 (win_lt hOL k L) (by rw [Nat.one_mul] at hW; exact hW))
            have hd : decide (0 < 1) = true := rfl
            have eq1 : IntKind.u64.wrap ((q1 : Int) - 1) = ((N / D : Nat) : Int) := by
              have h := HD.out.1
              generalize N / D = nd at *
              rw [show (q1 : Int) - 1 = (nd : Int) by omega]; exact w64 (by unfold BB at *; omega)
            have eq2 : ((N / D : Nat) : Int) % 4294967296 = ((N / D : Nat) : Int) := by
              have h := HD.out.1
              generalize N / D = nd at *
              unfold BB at hqq; omega
            have HO0 := Lib.hid hO0
            have HOl := Lib.hid hol
            clear hW hO0
            obtain ⟨nd, hnd⟩ : ∃ nd, nd = N / D := ⟨_, rfl⟩
            rw [← hnd] at eq1 eq2
            have HND := Lib.hid hnd
            clear hnd
            go_wp2
            go_loopw [9, 89] (fun cx x wr => ∃ (i c : Nat) (Z : List Nat), i ≤ L ∧ x = .int .i64 i ∧ cx = .int .u64 c ∧ c < BB ∧ Rw32 wr g Z ∧ Hid (Z.length = U.length) ∧ Limbs Z ∧ Hid (∀ j, j < k ∨ k + i ≤ j → Z.getD j 0 = O.getD j 0) ∧ Hid (win Z k i + c * BB ^ i = win O k i + val (V.take i)) ∧ Out (· = g) w wr) (fun _ x _ => L - (intOf x).toNat)
            case atStart => exact ⟨0, 0, O, by omega, rfl, rfl, BB_pos, hO, HOl, hOL, Lib.hid (fun _ _ => rfl), Lib.hid (by simp [win_zero, val]), hO2⟩
            case round =>
              rename World => wi
              obtain ⟨i, c, Z, hi, rfl, rfl, hcB, hZ, hZl, hZL, hZ0, hZW, hOut⟩ := hrel
              have hzl := hZl.out
              by_cases hlt : i < L
              · have hltz : (i : Int) < (L : Int) := by omega
                have q0 := hZ.cell (k + i) (by omega)
                have qf := hZ.frozen (k + i)
                have hx := limb_get hZL (k + i)
                have HS := Lib.hid (back_step (O := Z) (U := O) (V := V) (k := k) (i := i) (c := c) (x := Z.getD (k + i) 0) (by omega) (by have := HOl.out; omega) (hZ0.out (k + i) (.inr (Nat.le_refl _))) hZW.out)
                by_cases him : i < m
                · have himz : (i : Int) < (m : Int) := by omega
                  have dd0 := okeep hOut (hV i (by omega)) hg
                  have hy := limb_get hVL i
                  generalize V.getD i 0 = y at *
                  generalize Z.getD (k + i) 0 = x at *
                  have f1 := w64 (BB_sq x hx)
                  have f2 := w64 (BB_sq y hy)
                  have f3 : IntKind.u64.wrap ((c : Int) + (x : Int)) = ((c + x : Nat) : Int) := by rw [← Int.natCast_add]; exact w64 (by unfold BB at *; omega)
                  have f4 : IntKind.u64.wrap (((c + x : Nat) : Int) + (y : Int)) = ((c + x + y : Nat) : Int) := by rw [← Int.natCast_add]; exact w64 (by unfold BB at *; omega)
                  have HS2 := Lib.hid (HS.out (c + x + y) rfl)
                  have hT : c + x + y < BB * BB := by unfold BB at *; omega
                  have hdB : (c + x + y) / BB < BB := Nat.div_lt_of_lt_mul hT
                  have hmB : (c + x + y) % BB < BB := Nat.mod_lt _ BB_pos
                  obtain ⟨lo, hlo⟩ : ∃ lo, lo = (c + x + y) % BB := ⟨_, rfl⟩
                  obtain ⟨up, hup⟩ : ∃ up, up = (c + x + y) / BB := ⟨_, rfl⟩
                  rw [← hlo] at HS2 hmB
                  rw [← hup] at HS2 hdB
                  have g0 : IntKind.u64.wrap ((c : Int) + (x : Int) + (y : Int)) = (c : Int) + (x : Int) + (y : Int) := by rw [show ((c : Int) + (x : Int) + (y : Int)) = ((c + x + y : Nat) : Int) by omega]; exact w64 hT
                  have g1 : ((c : Int) + (x : Int) + (y : Int)) % 4294967296 = (lo : Int) := by unfold BB at hlo; omega
                  have g2 : ((c : Int) + (x : Int) + (y : Int)) / 4294967296 = (up : Int) := by unfold BB at hup; omega
                  have qb := hZ.set (k + i) lo
                  have ql := limbs_set hZL (k := k + i) hmB
                  have bs := hOut.set (p := ⟨g, k + i, none⟩) (fun _ => rfl) (.int .u32 (lo : Int))
                  clear hzl hlo hup hT HS hol
                  go_wp2
                  refine ⟨⟨i + 1, up, Z.set (k + i) lo, by omega, by go_num, rfl, hdB, qb, Lib.hid (by simpa using hZl.out), ql, Lib.hid ?_, HS2, bs⟩, by simp [intOf] <;> omega⟩
                  intro j hj
                  rw [getD_set_far (by omega)]
                  exact hZ0.out j (by omega)
                · have hy0 : V.getD i 0 = 0 := by simp [show V.length ≤ i by omega]
                  rw [hy0] at HS
                  have him' : decide (i < m) = false := by simpa using him
                  generalize Z.getD (k + i) 0 = x at *
                  have f1 := w64 (BB_sq x hx)
                  have f3 : IntKind.u64.wrap ((c : Int) + (x : Int)) = ((c + x : Nat) : Int) := by rw [← Int.natCast_add]; exact w64 (by unfold BB at *; omega)
                  have HS2 := Lib.hid (HS.out (c + x) rfl)
                  have hT : c + x < BB * BB := by unfold BB at *; omega
                  have hdB : (c + x) / BB < BB := Nat.div_lt_of_lt_mul hT
                  have hmB : (c + x) % BB < BB := Nat.mod_lt _ BB_pos
                  obtain ⟨lo, hlo⟩ : ∃ lo, lo = (c + x) % BB := ⟨_, rfl⟩
                  obtain ⟨up, hup⟩ : ∃ up, up = (c + x) / BB := ⟨_, rfl⟩
                  rw [← hlo] at HS2 hmB
                  rw [← hup] at HS2 hdB
                  have g0 : IntKind.u64.wrap ((c : Int) + (x : Int)) = (c : Int) + (x : Int) := by rw [show ((c : Int) + (x : Int)) = ((c + x : Nat) : Int) by omega]; exact w64 hT
                  have g1 : ((c : Int) + (x : Int)) % 4294967296 = (lo : Int) := by unfold BB at hlo; omega
                  have g2 : ((c : Int) + (x : Int)) / 4294967296 = (up : Int) := by unfold BB at hup; omega
                  have qb := hZ.set (k + i) lo
                  have ql := limbs_set hZL (k := k + i) hmB
                  have bs := hOut.set (p := ⟨g, k + i, none⟩) (fun _ => rfl) (.int .u32 (lo : Int))
                  clear hzl hlo hup hT HS hol
                  go_wp2
                  refine ⟨⟨i + 1, up, Z.set (k + i) lo, by omega, by go_num, rfl, hdB, qb, Lib.hid (by simpa using hZl.out), ql, Lib.hid ?_, HS2, bs⟩, by simp [intOf] <;> omega⟩
                  intro j hj
                  rw [getD_set_far (by omega)]
                  exact hZ0.out j (by omega)
              · obtain rfl : i = L := by omega
                have HR := Lib.hid (show win Z k i = N % D by
                  have h := hZW.out
                  rw [List.take_of_length_le (by have := HEN.out; omega), eD, HD.out.2] at h
                  refine kn_back (P := BB ^ i) (Nat.lt_of_lt_of_le (Nat.mod_lt _ (digSet_pos HSet.out)) ?_) (win_lt hZL k i) h
                  rw [← eD]
                  refine Nat.le_of_lt (Nat.lt_of_lt_of_le (val_lt hVL) (Nat.pow_le_pow_right BB_pos (by have := HEN.out; omega))))
                have HZ0 := Lib.hid (show ∀ j, j < k ∨ k + i ≤ j → Z.getD j 0 = U.getD j 0 from fun j hj => (hZ0.out j hj).trans (HO0.out j hj))
                clear hzl hol
                go_wp2
                rw [Exit.noGoto_ret]
                go_ret
                exact ⟨⟨Z, by rw [← HND.out]; rfl, hZ, hZl.out, hZL, HZ0.out, HR.out⟩, hOut⟩
        · have ez : ((r + v1 : Nat) : Int) / 4294967296 = 0 := by unfold BB at *; omega
          have hlt : q - 1 < q := by omega
          generalize q - 1 = q1 at *
          generalize r + v1 = r1 at *
          have HG2 := Lib.hid hG2
          clear hG2
          go_wp2
          go_quiet (fail)
          go_wp2
          exact ⟨⟨q1, r1, rfl, rfl, HG2, by omega, by repeat (first | exact Below.refl _ _ | exact hb | refine Below.drew ?_ | refine below_drewN ?_ _ | refine bset ?_ (by simp <;> omega) _ | refine bal ?_ _)⟩, by simp [intOf]; omega⟩
      · have HK := Lib.hid (digSet_good HSet.out hG.out (by omega) (by omega))
        generalize q * v2 = p at ep ht hqv
        generalize r * BB + u2 = z at eo ht
        have htz : ¬ (z : Int) < (p : Int) := by omega
        have htd : decide (z < p) = false := by simpa using ht
        clear ht
        go_wp2
        go_quiet (fail)
        have lc := fun W (h : Below w.heap.size w W) => less_c g k m cu bv ov cv q U V W (hU.keep h) hUL (by have := HEN.out; omega) (by have := HEN.out; omega) HUm ⟨fun j hj => bkeep h (hV j hj), typ_keep hV.ty h⟩ hVL hVn hcv hg HK.out.2.1
        rw [eD, show m + 1 = L from (HEN.out.2.2).symm, eN] at lc
        go_wp2_with fail
        refine (lc _ (by repeat (first | exact Below.refl _ _ | exact hb | refine Below.drew ?_ | refine below_drewN ?_ _ | refine bset ?_ (by simp <;> omega) _ | refine bal ?_ _))).mono ?_
        rintro e w2 ⟨⟨O, z, rfl, hz, hO, hol, hOL, hO0, hW⟩, hOut⟩
        have hqq := HK.out.2.1
        have hO2 : Out (· = g) w w2 := (Out.of_below _ (show Below w.heap.size w _ by repeat (first | exact Below.refl _ _ | exact hb | refine Below.drew ?_ | refine below_drewN ?_ _ | refine bset ?_ (by simp <;> omega) _ | refine bal ?_ _))).trans hOut
        clear lc hOut
        rcases (show z = 0 ∨ z = 1 by omega) with rfl | rfl
        · have HD := Lib.hid (kn_done (digSet_pos HSet.out) HK.out.1 (by rw [Nat.zero_mul, Nat.add_zero] at hW; exact hW))
          have hd : decide (0 < 0) = false := rfl
          have eq : (q : Int) % 4294967296 = (q : Int) := by unfold BB at hqq; omega
          clear hW
          go_wp2
          rw [Exit.noGoto_ret]
          go_ret
          exact ⟨⟨O, by rw [HD.out.1]; rfl, hO, hol, hOL, hO0, HD.out.2.symm⟩, hO2⟩
        · have HD := Lib.hid (kn_over (P := BB ^ L) (digSet_pos HSet.out) HK.out.2.2 (win_lt hOL k L) (by rw [Nat.one_mul] at hW; exact hW))
          have hd : decide (0 < 1) = true := rfl
          have eq1 : IntKind.u64.wrap ((q : Int) - 1) = ((N / D : Nat) : Int) := by
            have h := HD.out.1
            generalize N / D = nd at *
            rw [show (q : Int) - 1 = (nd : Int) by omega]; exact w64 (by unfold BB at *; omega)
          have eq2 : ((N / D : Nat) : Int) % 4294967296 = ((N / D : Nat) : Int) := by
            have h := HD.out.1
            generalize N / D = nd at *
            unfold BB at hqq; omega
          have HO0 := Lib.hid hO0
          have HOl := Lib.hid hol
          clear hW hO0
          obtain ⟨nd, hnd⟩ : ∃ nd, nd = N / D := ⟨_, rfl⟩
          rw [← hnd] at eq1 eq2
          have HND := Lib.hid hnd
          clear hnd
          go_wp2
          go_loopw [9, 89] (fun cx x wr => ∃ (i c : Nat) (Z : List Nat), i ≤ L ∧ x = .int .i64 i ∧ cx = .int .u64 c ∧ c < BB ∧ Rw32 wr g Z ∧ Hid (Z.length = U.length) ∧ Limbs Z ∧ Hid (∀ j, j < k ∨ k + i ≤ j → Z.getD j 0 = O.getD j 0) ∧ Hid (win Z k i + c * BB ^ i = win O k i + val (V.take i)) ∧ Out (· = g) w wr) (fun _ x _ => L - (intOf x).toNat)
          case atStart => exact ⟨0, 0, O, by omega, rfl, rfl, BB_pos, hO, HOl, hOL, Lib.hid (fun _ _ => rfl), Lib.hid (by simp [win_zero, val]), hO2⟩
          case round =>
            rename World => wi
            obtain ⟨i, c, Z, hi, rfl, rfl, hcB, hZ, hZl, hZL, hZ0, hZW, hOut⟩ := hrel
            have hzl := hZl.out
            by_cases hlt : i < L
            · have hltz : (i : Int) < (L : Int) := by omega
              have q0 := hZ.cell (k + i) (by omega)
              have qf := hZ.frozen (k + i)
              have hx := limb_get hZL (k + i)
              have HS := Lib.hid (back_step (O := Z) (U := O) (V := V) (k := k) (i := i) (c := c) (x := Z.getD (k + i) 0) (by omega) (by have := HOl.out; omega) (hZ0.out (k + i) (.inr (Nat.le_refl _))) hZW.out)
              by_cases him : i < m
              · have himz : (i : Int) < (m : Int) := by omega
                have dd0 := okeep hOut (hV i (by omega)) hg
                have hy := limb_get hVL i
                generalize V.getD i 0 = y at *
                generalize Z.getD (k + i) 0 = x at *
                have f1 := w64 (BB_sq x hx)
                have f2 := w64 (BB_sq y hy)
                have f3 : IntKind.u64.wrap ((c : Int) + (x : Int)) = ((c + x : Nat) : Int) := by rw [← Int.natCast_add]; exact w64 (by unfold BB at *; omega)
                have f4 : IntKind.u64.wrap (((c + x : Nat) : Int) + (y : Int)) = ((c + x + y : Nat) : Int) := by rw [← Int.natCast_add]; exact w64 (by unfold BB at *; omega)
                have HS2 := Lib.hid (HS.out (c + x + y) rfl)
                have hT : c + x + y < BB * BB := by unfold BB at *; omega
                have hdB : (c + x + y) / BB < BB := Nat.div_lt_of_lt_mul hT
                have hmB : (c + x + y) % BB < BB := Nat.mod_lt _ BB_pos
                obtain ⟨lo, hlo⟩ : ∃ lo, lo = (c + x + y) % BB := ⟨_, rfl⟩
                obtain ⟨up, hup⟩ : ∃ up, up = (c + x + y) / BB := ⟨_, rfl⟩
                rw [← hlo] at HS2 hmB
                rw [← hup] at HS2 hdB
                have g0 : IntKind.u64.wrap ((c : Int) + (x : Int) + (y : Int)) = (c : Int) + (x : Int) + (y : Int) := by rw [show ((c : Int) + (x : Int) + (y : Int)) = ((c + x + y : Nat) : Int) by omega]; exact w64 hT
                have g1 : ((c : Int) + (x : Int) + (y : Int)) % 4294967296 = (lo : Int) := by unfold BB at hlo; omega
                have g2 : ((c : Int) + (x : Int) + (y : Int)) / 4294967296 = (up : Int) := by unfold BB at hup; omega
                have qb := hZ.set (k + i) lo
                have ql := limbs_set hZL (k := k + i) hmB
                have bs := hOut.set (p := ⟨g, k + i, none⟩) (fun _ => rfl) (.int .u32 (lo : Int))
                clear hzl hlo hup hT HS hol
                go_wp2
                refine ⟨⟨i + 1, up, Z.set (k + i) lo, by omega, by go_num, rfl, hdB, qb, Lib.hid (by simpa using hZl.out), ql, Lib.hid ?_, HS2, bs⟩, by simp [intOf] <;> omega⟩
                intro j hj
                rw [getD_set_far (by omega)]
                exact hZ0.out j (by omega)
              · have hy0 : V.getD i 0 = 0 := by simp [show V.length ≤ i by omega]
                rw [hy0] at HS
                have him' : decide (i < m) = false := by simpa using him
                generalize Z.getD (k + i) 0 = x at *
                have f1 := w64 (BB_sq x hx)
                have f3 : IntKind.u64.wrap ((c : Int) + (x : Int)) = ((c + x : Nat) : Int) := by rw [← Int.natCast_add]; exact w64 (by unfold BB at *; omega)
                have HS2 := Lib.hid (HS.out (c + x) rfl)
                have hT : c + x < BB * BB := by unfold BB at *; omega
                have hdB : (c + x) / BB < BB := Nat.div_lt_of_lt_mul hT
                have hmB : (c + x) % BB < BB := Nat.mod_lt _ BB_pos
                obtain ⟨lo, hlo⟩ : ∃ lo, lo = (c + x) % BB := ⟨_, rfl⟩
                obtain ⟨up, hup⟩ : ∃ up, up = (c + x) / BB := ⟨_, rfl⟩
                rw [← hlo] at HS2 hmB
                rw [← hup] at HS2 hdB
                have g0 : IntKind.u64.wrap ((c : Int) + (x : Int)) = (c : Int) + (x : Int) := by rw [show ((c : Int) + (x : Int)) = ((c + x : Nat) : Int) by omega]; exact w64 hT
                have g1 : ((c : Int) + (x : Int)) % 4294967296 = (lo : Int) := by unfold BB at hlo; omega
                have g2 : ((c : Int) + (x : Int)) / 4294967296 = (up : Int) := by unfold BB at hup; omega
                have qb := hZ.set (k + i) lo
                have ql := limbs_set hZL (k := k + i) hmB
                have bs := hOut.set (p := ⟨g, k + i, none⟩) (fun _ => rfl) (.int .u32 (lo : Int))
                clear hzl hlo hup hT HS hol
                go_wp2
                refine ⟨⟨i + 1, up, Z.set (k + i) lo, by omega, by go_num, rfl, hdB, qb, Lib.hid (by simpa using hZl.out), ql, Lib.hid ?_, HS2, bs⟩, by simp [intOf] <;> omega⟩
                intro j hj
                rw [getD_set_far (by omega)]
                exact hZ0.out j (by omega)
            · obtain rfl : i = L := by omega
              have HR := Lib.hid (show win Z k i = N % D by
                have h := hZW.out
                rw [List.take_of_length_le (by have := HEN.out; omega), eD, HD.out.2] at h
                refine kn_back (P := BB ^ i) (Nat.lt_of_lt_of_le (Nat.mod_lt _ (digSet_pos HSet.out)) ?_) (win_lt hZL k i) h
                rw [← eD]
                refine Nat.le_of_lt (Nat.lt_of_lt_of_le (val_lt hVL) (Nat.pow_le_pow_right BB_pos (by have := HEN.out; omega))))
              have HZ0 := Lib.hid (show ∀ j, j < k ∨ k + i ≤ j → Z.getD j 0 = U.getD j 0 from fun j hj => (hZ0.out j hj).trans (HO0.out j hj))
              clear hzl hol
              go_wp2
              rw [Exit.noGoto_ret]
              go_ret
              exact ⟨⟨Z, by rw [← HND.out]; rfl, hZ, hZl.out, hZL, HZ0.out, HR.out⟩, hOut⟩

theorem digit_c (g k n cu bv ov cv : Nat) (U V : List Nat) (w : World) (hU : Rw32 w g U) (hUL : Limbs U) (hk : k + (n + 3) ≤ U.length) (hcu : n + 3 ≤ cu) (hkm : U.length ≤ 1099511627776) (hV : At32 w bv ov V) (hVL : Limbs V) (hVn : V.length = n + 2) (hcv : n + 2 ≤ cv) (hg : bv ≠ g)
    (hv1 : 2147483648 ≤ V.getD (n + 1) 0) (hND : win U k (n + 3) < val V * BB) :
    Calls Tryd.prog 104 #[.slice (some ⟨g, k, none⟩) (n + 3) cu, .slice (some ⟨bv, ov, none⟩) (n + 2) cv] w fun e w' => (∃ (O : List Nat), e = .returned (.int .u32 ((win U k (n + 3) / val V : Nat) : Int)) ∧ Rw32 w' g O ∧ O.length = U.length ∧ Limbs O ∧ (∀ j, j < k ∨ k + (n + 3) ≤ j → O.getD j 0 = U.getD j 0) ∧ win O k (n + 3) = win U k (n + 3) % val V) ∧ Out (· = g) w w' := by
  have hvv := top_two hVn
  have huu := win_top (U := U) (k := k) (n := n) (by omega)
  have hset : DigSet (win U k (n + 3)) (val V) (V.getD (n + 1) 0) (V.getD n 0) (val (V.take n)) (U.getD (k + (n + 2)) 0 * BB + U.getD (k + (n + 1)) 0) (U.getD (k + n) 0) (win U k n) (BB ^ n) := by
    refine ⟨Nat.pow_pos BB_pos, ?_, ?_, ?_, win_lt hUL _ _, hv1, limb_get hVL _, limb_get hVL _, limb_get hUL _, hND⟩
    · rw [hvv, Nat.pow_succ, Nat.mul_comm (BB ^ n)]
    · rw [huu, Nat.pow_succ, Nat.mul_comm (BB ^ n)]
    · refine Nat.lt_of_lt_of_le (val_lt fun x hx => hVL x (List.mem_of_mem_take hx)) (Nat.pow_le_pow_right BB_pos ?_)
      simp; omega
  exact digit_core g k n (n + 1) (n + 2) (n + 3) cu bv ov cv U V _ _ _ _ _ _ _ _ _ _ w rfl rfl rfl (by omega) hU hV hg hk hVn hUL hVL rfl rfl hset (hU.cell _ (by omega)) (hU.cell _ (by omega)) (hU.cell _ (by omega)) (hV _ (by omega)) (hV _ (by omega)) (limb_get hUL _) (limb_get hUL _) hcu hcv hkm
end Go.Proofs.YthaohpfbengabaaDoor

/- limb: DivMod. -/
namespace Go.Proofs.YthaohpfbengabaaDoor
open Num
open Go.ChangeShapes Go.WideShapes Go.ChangeAt Go.RowKit
set_option linter.unusedVariables false
set_option linter.unusedSimpArgs false
namespace Num
theorem nrm_len_le {l : List Nat} {k : Nat} (hn : Nrm l) (h : val l < BB ^ k) : l.length ≤ k := by
  by_cases h0 : l = []
  · subst h0; simp
  · have h1 := nrm_val_pos hn h0
    have h2 := Nat.lt_of_le_of_lt h1 h
    have := (Nat.pow_lt_pow_iff_right (a := BB) (by unfold BB; omega)).1 h2
    omega
theorem le_len {l : List Nat} {k : Nat} (hl : Limbs l) (h : BB ^ k ≤ val l) : k < l.length := by
  have h2 := Nat.lt_of_le_of_lt h (val_lt hl)
  exact (Nat.pow_lt_pow_iff_right (a := BB) (by unfold BB; omega)).1 h2
/-- shifted so that the highest limb is great -/
theorem shift_top {m : List Nat} {p : Nat} (hm : Limbs m) (hn : Nrm m) (hp : m.length = p + 1) : bitN (m.getD p 0) ≤ 32 ∧ 1 ≤ bitN (m.getD p 0) ∧ 2147483648 * BB ^ p ≤ val m * 2 ^ (32 - bitN (m.getD p 0)) ∧ val m * 2 ^ (32 - bitN (m.getD p 0)) < BB ^ (p + 1) := by
  have ht := limb_get hm p
  have hs : val m = val (m.take p) + m.getD p 0 * BB ^ p := by
    have := val_take_succ (l := m) (k := p) (by omega)
    rwa [List.take_of_length_le (by omega)] at this
  have h0 : m.getD p 0 ≠ 0 := by
    have := hn (by intro e; subst e; simp at hp)
    rw [List.getLast_eq_getElem] at this
    simpa [hp] using this
  have hlow : val (m.take p) < BB ^ p := by
    have := val_lt (l := m.take p) (fun x hx => hm x (List.mem_of_mem_take hx))
    rwa [List.length_take, Nat.min_eq_left (by omega)] at this
  generalize m.getD p 0 = t at *
  have e : bitN t = t.log2 + 1 := by unfold bitN; rw [if_neg h0]
  have k1 := Nat.log2_self_le h0
  have k2 := @Nat.lt_log2_self t
  have hl : t.log2 < 32 := by
    apply Nat.lt_of_not_le
    intro h32
    have : 2 ^ 32 ≤ 2 ^ t.log2 := Nat.pow_le_pow_right (by omega) h32
    unfold BB at ht
    omega
  rw [e]
  generalize t.log2 = b at *
  have e31 : 2 ^ b * 2 ^ (32 - (b + 1)) = 2147483648 := by rw [← Nat.pow_add, show b + (32 - (b + 1)) = 31 by omega]
  have e32 : 2 ^ (b + 1) * 2 ^ (32 - (b + 1)) = BB := by rw [← Nat.pow_add, show b + 1 + (32 - (b + 1)) = 32 by omega]; rfl
  generalize 2 ^ (32 - (b + 1)) = K at *
  refine ⟨by omega, by omega, ?_, ?_⟩
  · rw [hs, ← e31]
    have h1 : 2 ^ b * BB ^ p ≤ t * BB ^ p := Nat.mul_le_mul k1 (Nat.le_refl _)
    have h2 : 2 ^ b * BB ^ p * K ≤ (val (List.take p m) + t * BB ^ p) * K := Nat.mul_le_mul (by omega) (Nat.le_refl _)
    have : 2 ^ b * K * BB ^ p = 2 ^ b * BB ^ p * K := by ac_rfl
    omega
  · rw [hs, Nat.pow_succ]
    have h1 : (t + 1) * BB ^ p ≤ 2 ^ (b + 1) * BB ^ p := Nat.mul_le_mul k2 (Nat.le_refl _)
    rw [Nat.add_mul] at h1
    have hK : 0 < K := by
      rcases Nat.eq_zero_or_pos K with h | h
      · subst h; unfold BB at e32; omega
      · exact h
    have h2 : (val (List.take p m) + t * BB ^ p) * K < 2 ^ (b + 1) * BB ^ p * K := Nat.mul_lt_mul_of_pos_right (by omega) hK
    have : 2 ^ (b + 1) * BB ^ p * K = BB ^ p * BB := by rw [← e32]; ac_rfl
    omega
theorem top_of_val {V : List Nat} {p : Nat} (hV : Limbs V) (hp : V.length = p + 1) (h : 2147483648 * BB ^ p ≤ val V) : 2147483648 ≤ V.getD p 0 := by
  have hs : val V = val (V.take p) + V.getD p 0 * BB ^ p := by
    have := val_take_succ (l := V) (k := p) (by omega)
    rwa [List.take_of_length_le (by omega)] at this
  have hlow : val (V.take p) < BB ^ p := by
    have := val_lt (l := V.take p) (fun x hx => hV x (List.mem_of_mem_take hx))
    rwa [List.length_take, Nat.min_eq_left (by omega)] at this
  apply Nat.le_of_not_lt
  intro hlt
  have : (V.getD p 0 + 1) * BB ^ p ≤ 2147483648 * BB ^ p := Nat.mul_le_mul hlt (Nat.le_refl _)
  rw [Nat.add_mul] at this
  omega
/-- the division, a digit further down -/
theorem dm_pre {U : List Nat} {k n D : Nat} (hU : Limbs U) (hk : k + n < U.length) (hh : val (U.drop (k + 1)) < D) (hD : D < BB ^ n) : win U k (n + 1) = val (U.drop k) ∧ val (U.drop k) < D * BB := by
  have e : U.drop k = U.getD k 0 :: U.drop (k + 1) := by
    rw [List.drop_eq_getElem_cons (by omega)]
    simp [show k < U.length by omega]
  have h1 : val (U.drop k) = U.getD k 0 + BB * val (U.drop (k + 1)) := by rw [e]; rfl
  have h2 := limb_get hU k
  refine ⟨?_, ?_⟩
  · unfold win
    rw [e, List.take_succ_cons, val, val]
    congr 2
    -- what is above the window is nothing
    have hL : Limbs (U.drop (k + 1)) := fun x hx => hU x (List.mem_of_mem_drop hx)
    have hlt := Nat.lt_trans hh hD
    generalize U.drop (k + 1) = T at *
    conv => rhs; rw [← List.take_append_drop n T]
    rw [val_append]
    by_cases hn : T.length ≤ n
    · rw [List.drop_eq_nil_of_le hn]; simp [val]
    · rw [List.length_take, Nat.min_eq_left (by omega)]
      have h3 : val (T.drop n) = val T / BB ^ n := val_drop hL (by omega)
      rw [h3, Nat.div_eq_of_lt hlt]; simp
  · rw [h1]
    have : (val (U.drop (k + 1)) + 1) * BB ≤ D * BB := Nat.mul_le_mul hh (Nat.le_refl _)
    rw [Nat.add_mul] at this
    rw [Nat.mul_comm BB]
    omega
theorem win_drop {O : List Nat} {k n : Nat} (hO : Limbs O) (h0 : ∀ j, k + n ≤ j → O.getD j 0 = 0) : val (O.drop k) = win O k n := by
  unfold win
  conv => lhs; rw [← List.take_append_drop n (O.drop k)]
  rw [val_append]
  have : val ((O.drop k).drop n) = 0 := by
    rw [List.drop_drop]
    have hz : ∀ l : List Nat, (∀ j, l.getD j 0 = 0) → val l = 0 := by
      intro l
      induction l with
      | nil => intro _; rfl
      | cons x l ih =>
        intro h
        have h1 := h 0
        have h2 := ih fun j => by have := h (j + 1); simpa using this
        simp at h1
        simp [val, h1, h2]
    refine hz _ fun j => ?_
    have := h0 (k + n + j) (by omega)
    simpa [List.getElem?_drop] using this
  rw [this]; simp
theorem getD_zero {T : List Nat} {n t : Nat} (hT : Limbs T) (h : val T < BB ^ n) (ht : n ≤ t) : T.getD t 0 = 0 := by
  by_cases hl : t < T.length
  · have hs := val_split hl
    apply Nat.eq_zero_of_not_pos
    intro hp
    have h1 : BB ^ t * 1 ≤ BB ^ t * (T.getD t 0 + BB * val (T.drop (t + 1))) := Nat.mul_le_mul (Nat.le_refl _) (by omega)
    have h2 : BB ^ n ≤ BB ^ t := Nat.pow_le_pow_right BB_pos ht
    omega
  · simp [show T.length ≤ t by omega]
/-- one digit of the whole division -/
theorem dm_step {U O Q : List Nat} {j n D A d : Nat} (hU : Limbs U) (hO : Limbs O) (hl : O.length = U.length) (hj : j + n < U.length) (hQ : j < Q.length) (hq0 : Q.getD j 0 = 0) (hD : D < BB ^ n) (hD0 : 0 < D)
    (hh : val (U.drop (j + 1)) < D) (hA : val Q * D + val U = A) (ho : ∀ i, i < j ∨ j + (n + 1) ≤ i → O.getD i 0 = U.getD i 0) (hd : d = win U j (n + 1) / D) (hw : win O j (n + 1) = win U j (n + 1) % D) :
    val (Q.set j d) * D + val O = A ∧ val (O.drop j) < D := by
  obtain ⟨h1, h2⟩ := dm_pre hU hj hh hD
  have hz : ∀ i, j + (n + 1) ≤ i → O.getD i 0 = 0 := fun i hi => by
    rw [ho i (.inr hi)]
    have := getD_zero (T := U.drop (j + 1)) (fun x hx => hU x (List.mem_of_mem_drop hx)) (Nat.lt_trans hh hD) (show n ≤ i - (j + 1) by omega)
    simpa [List.getElem?_drop, show j + 1 + (i - (j + 1)) = i by omega] using this
  have h3 := win_drop hO hz
  have h4 : val (O.drop j) < D := by rw [h3, hw]; exact Nat.mod_lt _ hD0
  refine ⟨?_, h4⟩
  have ht : O.take j = U.take j := by
    apply List.ext_getElem?
    intro i
    simp only [List.getElem?_take]
    by_cases hi : i < j
    · rw [if_pos hi, if_pos hi]
      have := ho i (.inl hi)
      simpa [show i < O.length by omega, show i < U.length by omega] using this
    · rw [if_neg hi, if_neg hi]
  have hO2 := val_cut (U := O) (k := j) (by omega)
  have hU2 := val_cut (U := U) (k := j) (by omega)
  rw [ht, h3, hw] at hO2
  rw [← h1] at hU2
  have e := Nat.div_add_mod (win U j (n + 1)) D
  rw [← hd] at e
  have e2 := congrArg (BB ^ j * ·) e
  simp only [Nat.mul_add] at e2
  have e3 := val_set0 (l := Q) d hQ hq0
  rw [e3, Nat.add_mul]
  have e4 : d * BB ^ j * D = BB ^ j * (D * d) := by ac_rfl
  omega
theorem dm_end {A B s Q R : Nat} (hB : 0 < B) (h : Q * (B * 2 ^ s) + R = A * 2 ^ s) (hR : R < B * 2 ^ s) : A / B = Q ∧ A % B = R / 2 ^ s := by
  have hp : 0 < 2 ^ s := Nat.pow_pos (by omega)
  have hd := kn_done (N := A * 2 ^ s) (D := B * 2 ^ s) (g := A * 2 ^ s / (B * 2 ^ s)) (W := A * 2 ^ s % (B * 2 ^ s)) (Nat.mul_pos hB hp) (Nat.le_refl _) (by rw [Nat.add_comm]; exact Nat.div_add_mod _ _)
  have e1 : A * 2 ^ s / (B * 2 ^ s) = Q := by
    rw [← h, Nat.add_comm, Nat.add_mul_div_right _ _ (Nat.mul_pos hB hp), Nat.div_eq_of_lt hR, Nat.zero_add]
  have e2 : A * 2 ^ s % (B * 2 ^ s) = R := by
    rw [← h, Nat.add_comm, Nat.add_mul_mod_self_right, Nat.mod_eq_of_lt hR]
  rw [Nat.mul_div_mul_right _ _ hp] at e1
  rw [Nat.mul_mod_mul_right] at e2
  exact ⟨e1, by rw [← e2, Nat.mul_div_cancel _ hp]⟩
end Num

theorem NewL.keep {w w' : World} {u : Value} {v : Nat} (h : NewL w u v) (hb : Below w.heap.size w w') : NewL w' u v := by
  obtain ⟨a, n, L, h1, h2, h3, h4⟩ := h
  exact ⟨a, n, L, h1, h2, h3.keep hb, h4⟩

set_option maxRecDepth 100000 in
set_option maxHeartbeats 8000000 in
theorem divmod_small (a b : Option Addr) (ca cb : Nat) (l lb : List Nat) (w : World) (ha : U32 w a ca l) (hb : U32 w b cb lb) (h1 : l.length ≤ 1099511627776) (h2 : lb.length ≤ 1099511627776) (h0 : 0 < val lb) (hs : val l < val lb ∨ (trimL lb).length = 1) :
    Calls Tryd.prog 90 #[.slice a l.length ca, .slice b lb.length cb] w fun e w' => (∃ u v, e = .returned (.tuple #[u, v, .int .i64 0]) ∧ NewL w' u (val l / val lb) ∧ NewL w' v (val l % val lb)) ∧ Below w.heap.size w w' := by
  have tc := trim_c b cb lb w hb
  have hbt := hb.trim
  have hbn := trim_nrm lb
  have h3 := Nat.le_trans (trim_len lb) h2
  rw [← val_trim lb] at *
  generalize trimL lb = m at *
  have cc := fun W (hB : Below w.heap.size w W) => limbCmp_c a b ca m.length l m W (ha.keep hB) (hbt.keep hB)
  have hcz := cmpN_neg (x := val l) (y := val m)
  have hm0 : m ≠ [] := by intro e; subst e; simp [val] at h0
  have hml : 0 < m.length := List.length_pos_iff.2 hm0
  have hmz : ((m.length : Int) == 0) = false := by simp; exact hm0
  by_cases hlt : val l < val m
  · have nc := fun W (hB : Below w.heap.size w W) => limbNorm_c a ca l W (ha.keep hB) h1
    have HD := Lib.hid (And.intro (Nat.div_eq_of_lt hlt) (Nat.mod_eq_of_lt hlt))
    have HL := Lib.hid (val_trim l)
    have HN := Lib.hid (trim_nrm l)
    rw [show decide (val l < val m) = true from by simpa using hlt] at hcz
    clear hlt hs
    generalize cmpN (val l) (val m) = z at *
    generalize trimL l = L at *
    go_enter Tryd.func90, Tryd.ntmps90
    go_wp2_with fail
    refine tc.mono ?_
    rintro e w1 ⟨rfl, rfl⟩
    clear tc
    go_wp2_with fail
    refine (cc _ (Below.refl _ _)).mono ?_
    rintro e w1 ⟨rfl, hb1⟩
    go_wp2_with fail
    refine (nc _ hb1).mono ?_
    rintro e w2 ⟨⟨a', rfl, hu⟩, hb2⟩
    go_wp2
    go_ret3
    exact ⟨⟨_, _, rfl, by rw [HD.out.1]; exact newL_nil _, ⟨a', _, L, rfl, rfl, hu, HN.out, by rw [HL.out, HD.out.2]⟩⟩, bthen hb1 hb2⟩
  · rcases hs with hs | hs
    · exact absurd hs hlt
    obtain ⟨c, rfl⟩ : ∃ c, m = [c] := List.length_eq_one_iff.1 hs
    have hc : val [c] = c := by simp [val]
    have hcB : c < BB := hbt.2.2.1 c (by simp)
    rw [hc] at hcz hlt h0 ⊢
    simp only [hc] at cc
    rcases hbt.2.2.2 with hn | ⟨bb, ob, rfl, hcell⟩
    · cases hn
    have c0 := hcell 0 (by simp)
    simp only [List.getD_cons_zero, Nat.add_zero] at c0
    rw [show decide (val l < c) = false from by simpa using hlt] at hcz
    have dc := fun W (hB : Below w.heap.size w W) => divSmall_c a ca l c W (ha.keep hB) h1 h0 hcB
    clear hlt hs hc hcell
    have nc := fun (g : Nat) W (hB : Below w.heap.size w W) (hg : g = W.heap.size) => limbNorm_c (some ⟨g, 0, none⟩) 1 [val l % c] (W.alloc (.cells (cel [val l % c]).toArray 89)) ((blk_at hg).u32 (fun x hx => by simp at hx; subst hx; exact Nat.lt_trans (Nat.mod_lt _ h0) hcB) (by simp [maxLen])) (by simp)
    generalize hr : val l % c = r at *
    have HL := Lib.hid (show val (trimL [r]) = r by rw [val_trim]; simp [val])
    have HN := Lib.hid (trim_nrm [r])
    generalize trimL [r] = L at *
    generalize cmpN (val l) c = z at *
    simp only [List.length_cons, List.length_nil, Nat.zero_add] at *
    clear hr
    go_enter Tryd.func90, Tryd.ntmps90
    go_wp2_with fail
    refine tc.mono ?_
    rintro e w1 ⟨rfl, rfl⟩
    clear tc
    go_wp2_with fail
    refine (cc _ (Below.refl _ _)).mono ?_
    rintro e w1 ⟨rfl, hb1⟩
    have k0 := bkeep hb1 c0
    go_wp2_with fail
    refine (dc _ hb1).mono ?_
    rintro e w2 ⟨⟨u, rfl, hq⟩, hb2⟩
    have HQ := Lib.hid hq
    obtain ⟨a1, n1, L1, rfl, -⟩ := hq
    have hB2 := bthen hb1 hb2
    clear dc cc hb1 hb2
    go_wp2_with fail
    refine (nc _ _ hB2 rfl).mono ?_
    rintro e w3 ⟨⟨a', rfl, hu⟩, hb3⟩
    go_wp2
    go_ret3
    exact ⟨⟨_, _, rfl, HQ.out.keep (bthen (bal (Below.refl _ _) _) hb3), ⟨a', _, L, rfl, rfl, hu, HN.out, HL.out⟩⟩, bthen (bal hB2 _) hb3⟩
end Go.Proofs.YthaohpfbengabaaDoor

/- The reference's numbers: Neg, Abs, Add, Sub. -/
namespace Go.Proofs.YthaohpfbengabaaDoor
open Num
open Go.ChangeShapes Go.WideShapes Go.ChangeAt Go.RowKit
set_option linter.unusedVariables false
set_option linter.unusedSimpArgs false


end Go.Proofs.YthaohpfbengabaaDoor

/- The reference's numbers: bits, bit. -/
namespace Go.Proofs.YthaohpfbengabaaDoor
open Num
open Go.ChangeShapes Go.WideShapes Go.ChangeAt Go.RowKit
set_option linter.unusedVariables false
set_option linter.unusedSimpArgs false

end Go.Proofs.YthaohpfbengabaaDoor

/- prog: Copy. -/
namespace Go.Proofs.YthaohpfbengabaaDoor
open Go.ChangeShapes Go.WideShapes Go.ChangeAt Go.RowKit
set_option linter.unusedVariables false
set_option linter.unusedSimpArgs false
section
variable {w w0 : World} {a : Option Addr} {cap B C : Nat} {t : TypeId}
end
end Go.Proofs.YthaohpfbengabaaDoor

