/- Texts of this seat, laid together: LimbH, IntI, RefH, Sh, RefI, Kn, RefJ. Each opens with its own remark, which says what it proves, and under which conditions. -/
import Derived.Test.YthlphfjmdgcpdaaGreatDoorW04
import Derived.Test.YthlphfjmdgcpdaaGreatDoorW05
import Derived.Test.YthlphfjmdgcpdaaGreatDoorW03
import Derived.Test.YthlphfjmdgcpdaaGreatDoorW01
import Derived.Test.YthlphfjmdgcpdaaGreatDoorW02
import Derived.Shelf.Small.Bits
import Derived.Shelf.Spec.TrailingZeros
import Derived.Shelf.Strings.Builder1
import Derived.Shelf.Strings.Trim
import Derived.RegionTactic
import Derived.ChangeAlike
import Derived.Laws.OwnMore
import Derived.Deep.Onto
set_option linter.unusedVariables false
set_option linter.unusedSimpArgs false
/- limb: Shr. -/
namespace Go.Proofs.YthlphfjmdgcpdaaGreatDoor
open Num
open Go.ChangeShapes Go.WideShapes Go.ChangeAt Go.RowKit
set_option linter.unusedVariables false
set_option linter.unusedSimpArgs false
namespace Num
theorem limbs_drop {l : List Nat} (h : Limbs l) (k : Nat) : Limbs (l.drop k) := fun x hx => h x (List.mem_of_mem_drop hx)
end Num
namespace Num
theorem set_fill {L : List Nat} {N i : Nat} (hL : L.length = N) (hi : i < N) : (L.take i ++ List.replicate (N - i) 0).set i (L.getD i 0) = L.take (i + 1) ++ List.replicate (N - (i + 1)) 0 := by
  have h1 : (L.take i).length = i := by rw [List.length_take]; omega
  rw [List.set_append_right _ _ (by omega), h1, Nat.sub_self, show N - i = (N - (i + 1)) + 1 from by omega, List.replicate_succ, List.set_cons_zero, List.take_succ_eq_append_getElem (by omega), List.append_assoc, show L.getD i 0 = L[i]'(by omega) from by simp [List.getD_eq_getElem?_getD, show i < L.length by omega]]
  rfl
end Num
theorem newL_nil (w : World) : NewL w (.slice none 0 0) 0 := ⟨none, 0, [], rfl, rfl, ⟨Nat.le_refl _, by unfold maxLen; omega, (fun _ h => by cases h), .inl rfl⟩, (fun h => absurd rfl h), rfl⟩

set_option maxRecDepth 100000 in
set_option maxHeartbeats 4000000 in
theorem limbShr_c (a : Option Addr) (ca : Nat) (l : List Nat) (n : Nat) (w : World) (ha : U32 w a ca l) (h1 : l.length ≤ 1099511627776) (hn : n ≤ 9223372036854775807) :
    Calls Tryz.prog 152 #[.slice a l.length ca, .int .i64 (n : Int)] w fun e w' => (∃ u, e = .returned (.tuple #[u, .int .i64 0]) ∧ NewL w' u (val l / 2 ^ n)) ∧ Below w.heap.size w w' := by
  obtain ⟨m, hm⟩ : ∃ m, m = n / 32 := ⟨_, rfl⟩
  obtain ⟨k, hk⟩ : ∃ k, k = n % 32 := ⟨_, rfl⟩
  have en1 : (n : Int) / 32 = (m : Int) := by omega
  have en2 : (n : Int) % 32 = (k : Int) := by omega
  have en3 : (n : Int).tdiv 32 = (m : Int) := by rw [Int.tdiv_eq_ediv_of_nonneg (by omega)]; exact en1
  have en4 : (n : Int).tmod 32 = (k : Int) := by rw [Int.tmod_eq_emod_of_nonneg (by omega)]; exact en2
  have hk32 : k < 32 := by omega
  have HN := Lib.hid (show 2 ^ n = BB ^ m * 2 ^ k by rw [BB_pow, ← Nat.pow_add]; congr 1; omega)
  clear hm hk
  have tc := trim_c a ca l w ha
  have ht := ha.trim
  have HV := Lib.hid (val_trim l)
  have hl1 := Nat.le_trans (trim_len l) h1
  generalize trimL l = T at *
  have hn0 : decide ((n : Int) < 0) = false := by simp
  by_cases hmT : T.length ≤ m
  · have HZ := Lib.hid (show val l / 2 ^ n = 0 by
      apply Nat.div_eq_of_lt
      rw [← HV.out, HN.out]
      have h2 := val_lt ht.2.2.1
      have h3 : BB ^ T.length ≤ BB ^ m := Nat.pow_le_pow_right BB_pos hmT
      have h4 : BB ^ m * 1 ≤ BB ^ m * 2 ^ k := Nat.mul_le_mul_left _ (Nat.pow_pos (by omega))
      omega)
    go_enter Tryz.func152, Tryz.ntmps152
    go_wp2_with fail
    refine tc.mono ?_
    rintro e w1 ⟨rfl, rfl⟩
    clear tc
    go_wp2
    go_ret2
    exact ⟨⟨_, rfl, by rw [HZ.out]; exact newL_nil _⟩, Below.refl _ _⟩
  · have hmT' : decide (T.length ≤ m) = false := by simp; omega
    rcases ht.2.2.2 with ht0 | ⟨b, off, rfl, hca⟩
    · subst ht0; simp at hmT
    have htl := ht.2.2.1
    have hd1 := limbs_drop htl m
    have HD := Lib.hid (show val (shrL k (T.drop m)) = val l / 2 ^ n by rw [shrL_val k hk32 _ hd1, val_drop htl (by omega), HV.out, HN.out, Nat.div_div_eq_div_mul])
    obtain ⟨D, hD⟩ : ∃ D, D = T.drop m := ⟨_, rfl⟩
    have hDl : D.length = T.length - m := by rw [hD, List.length_drop]
    have hcd : ∀ i, i < D.length → w.cell? ⟨b, off + m + i, none⟩ = some (.int .u32 (D.getD i 0 : Nat)) := fun i hi => by
      have := hca (m + i) (by omega)
      rw [hD, Nat.add_assoc, this]
      simp [List.getD_eq_getElem?_getD, List.getElem?_drop]
    rw [← hD] at HD hd1
    have HCD := Lib.hid hcd
    have hcap : ¬ T.length = m := by omega
    have hmk := mk32 D.length (by omega)
    have eD : ((T.length : Int) - (m : Int)) = (D.length : Int) := by omega
    have eD2 : T.length - m = D.length := hDl.symm
    have hDp : 0 < D.length := by omega
    clear hD hDl hcd HN HV
    go_enter Tryz.func152, Tryz.ntmps152
    go_wp2_with fail
    refine tc.mono ?_
    rintro e w1 ⟨rfl, rfl⟩
    clear tc
    go_wp2
    go_loopw [31] (fun x wr => ∃ (i : Nat) (O : List Nat), i ≤ D.length ∧ x = .int .i64 i ∧ Blk wr w.heap.size O ∧ Hid (O = (shrL k D).take i ++ List.replicate (D.length - i) 0) ∧ Below w.heap.size w wr) (fun x _ => D.length - (intOf x).toNat)
    case atStart => exact ⟨0, _, Nat.zero_le _, rfl, blk_new w (List.replicate D.length 0), Lib.hid (by simp), bal (Below.refl _ _) _⟩
    case round =>
      obtain ⟨i, O, hi, rfl, hO, hOe, hB⟩ := hrel
      have hol : O.length = D.length := by rw [hOe.out]; simp [shrL_len]; omega
      by_cases hlt : i < D.length
      · have c0 := bkeep hB (HCD.out i hlt)
        have hx := limb_get hd1 i
        have HG := Lib.hid (shrL_get k D i hlt)
        have q0 := hO.cell i (by omega)
        have qf := hO.frozen i
        have e1 := w64 (BB_sq _ hx)
        by_cases hl2 : i + 1 < D.length
        · have d0 := bkeep hB (HCD.out (i + 1) hl2)
          have hy := limb_get hd1 (i + 1)
          generalize D.getD i 0 = x at *
          generalize D.getD (i + 1) 0 = y at *
          have e2 := w64 (BB_sq y hy)
          have eor : bits .or .u64 (x : Int) ((y : Int) * 4294967296) = ((x + y * BB : Nat) : Int) := by
            have e : (y : Int) * 4294967296 = ((y * BB : Nat) : Int) := by rw [Int.natCast_mul]; rfl
            have h := hi_or hy hx
            have hb : y * BB < 18446744073709551616 := by unfold BB at *; omega
            rw [u64_or_nat _ _ hb (by unfold BB at hx; omega)] at h
            rw [e, u64_or_nat _ _ (by unfold BB at hx; omega) hb, Nat.or_comm, h, Nat.add_comm]
          have hyl : (y : Int) < 4294967296 := by unfold BB at hy; omega
          have hl3 : (i : Int) + 1 < (D.length : Int) := by omega
          generalize x + y * BB = t at *
          have e3 : (t : Int) / 2 ^ k = ((t / 2 ^ k : Nat) : Int) := by rw [show (2 : Int) ^ k = ((2 ^ k : Nat) : Int) by rw [Int.natCast_pow]; rfl]; rfl
          have hr2 : (shrL k D).getD i 0 = t / 2 ^ k % BB := HG.out
          have e4 : ((t / 2 ^ k : Nat) : Int) % 4294967296 = ((t / 2 ^ k % BB : Nat) : Int) := by unfold BB; omega
          generalize t / 2 ^ k = q at *
          generalize hrr : q % BB = r at *
          have HR := Lib.hid hr2
          have qb := hO.set i r
          have bs := bset hB (p := ⟨w.heap.size, i, none⟩) (Nat.le_refl _) (.int .u32 (r : Int))
          clear hr2 hrr hol HG
          go_wp2
          exact ⟨⟨i + 1, _, by omega, by go_num, qb, Lib.hid (by rw [hOe.out, ← HR.out]; exact set_fill (shrL_len k D) hlt), bs⟩, by simp [intOf] <;> omega⟩
        · have hy0 : D.getD (i + 1) 0 = 0 := by simp [hl2]
          rw [hy0, Nat.zero_mul, Nat.add_zero] at HG
          have hl3 : decide ((i : Int) + 1 < (D.length : Int)) = false := by simp; omega
          generalize D.getD i 0 = x at *
          clear hy0
          obtain ⟨t, ht2⟩ : ∃ t, t = x := ⟨_, rfl⟩
          subst ht2
          have e3 : (t : Int) / 2 ^ k = ((t / 2 ^ k : Nat) : Int) := by rw [show (2 : Int) ^ k = ((2 ^ k : Nat) : Int) by rw [Int.natCast_pow]; rfl]; rfl
          have hr2 : (shrL k D).getD i 0 = t / 2 ^ k % BB := HG.out
          have e4 : ((t / 2 ^ k : Nat) : Int) % 4294967296 = ((t / 2 ^ k % BB : Nat) : Int) := by unfold BB; omega
          generalize t / 2 ^ k = q at *
          generalize hrr : q % BB = r at *
          have HR := Lib.hid hr2
          have qb := hO.set i r
          have bs := bset hB (p := ⟨w.heap.size, i, none⟩) (Nat.le_refl _) (.int .u32 (r : Int))
          clear hr2 hrr hol HG
          go_wp2
          exact ⟨⟨i + 1, _, by omega, by go_num, qb, Lib.hid (by rw [hOe.out, ← HR.out]; exact set_fill (shrL_len k D) hlt), bs⟩, by simp [intOf] <;> omega⟩
      · obtain rfl : i = D.length := by omega
        have hLs := shrL_len k D
        have hOe2 : O = shrL k D := by rw [hOe.out, List.take_of_length_le (by omega)]; simp
        have hOL : Limbs O := by rw [hOe2]; exact shrL_limbs k D
        have HV := Lib.hid (show val O = val l / 2 ^ n by rw [hOe2]; exact HD.out)
        have hu := hO.u32 hOL (by rw [hol]; unfold maxLen; omega)
        have tc := trim_c _ _ _ _ hu
        have HT := Lib.hid (val_trim O)
        have HNr := trim_nrm O
        have hu2 := hu.trim
        generalize trimL O = T2 at *
        rw [hol] at tc
        clear hOe hOe2 hu hol hLs
        go_wp2_with fail
        refine tc.mono ?_
        rintro e w1 ⟨rfl, rfl⟩
        clear tc
        go_wp2
        go_ret2
        exact ⟨⟨_, rfl, _, _, T2, rfl, rfl, hu2, HNr, by rw [HT.out, HV.out]⟩, hB⟩
end Go.Proofs.YthlphfjmdgcpdaaGreatDoor

/- integer: Abs, Shl. -/
namespace Go.Proofs.YthlphfjmdgcpdaaGreatDoor
open Num
open Go.ChangeShapes Go.WideShapes Go.ChangeAt Go.RowKit
set_option linter.unusedVariables false
set_option linter.unusedSimpArgs false

set_option maxRecDepth 100000 in
set_option maxHeartbeats 1000000 in
theorem abs_c (vx : Value) (x : Int) (w : World) (hx : IsInt w vx x) :
    Calls Tryz.prog 122 #[vx] w fun e w' => (∃ v, e = .returned v ∧ IsInt w' v (x.natAbs : Int)) ∧ Below w.heap.size w w' := by
  obtain ⟨n1, a1, c1, l1, rfl, u1, g1, s1, rfl⟩ := hx
  have mc := fun w h => made_c false a1 c1 l1 w h g1
  rw [sg_abs]
  rw [show sg false (val l1) = (val l1 : Int) from rfl] at mc
  clear s1 g1
  unfold iv
  have hB0 := Below.refl w.heap.size w
  go_enter Tryz.func122, Tryz.ntmps122
  go_wp2_with fail
  refine (mc _ (u1.keep (by repeat (first | exact Below.refl _ _ | exact hB0 | refine Below.drew ?_ | refine below_drewN ?_ _ | refine bset ?_ (by simp <;> omega) _ | refine bal ?_ _)))).mono ?_
  rintro e w1 ⟨⟨v, rfl, hi⟩, hb1⟩
  have r0 : w1.cell? ⟨w.heap.size + 1, 0, none⟩ = some (.bool false) := bkc hb1
  have zr0 := cell_lt r0
  have r0f : w1.frozen? ⟨w.heap.size + 1, 0, none⟩ = false := bkcf (v := .bool false) hb1
  have r1 : w1.cell? ⟨w.heap.size + 1, 1, none⟩ = some (.slice none 0 0) := bkc hb1
  have r1f : w1.frozen? ⟨w.heap.size + 1, 1, none⟩ = false := bkcf (v := .slice none 0 0) hb1
  have hB : Below w.heap.size w w1 := bthen (by repeat (first | exact Below.refl _ _ | exact hB | refine Below.drew ?_ | refine below_drewN ?_ _ | refine bset ?_ (by simp <;> omega) _ | refine bal ?_ _)) hb1
  have hz : w.heap.size ≤ w1.heap.size := hB.size
  have HI2 := Lib.hid (hi.put2 r0 r1)
  obtain ⟨n4, a4, c4, l4, rfl, _, _, _, _⟩ := hi
  unfold iv at *
  go_wp2
  refine bodyPost_ret (v := .agg #[.bool n4, .slice a4 l4.length c4]) (by simp [results, Tryz.results122, go_sem, *]) rfl ⟨⟨_, rfl, HI2.out _ _⟩, ?_⟩
  repeat (first | exact Below.refl _ _ | exact hB | refine Below.drew ?_ | refine below_drewN ?_ _ | refine bset ?_ (by simp <;> omega) _ | refine bal ?_ _)

namespace Num
end Num
end Go.Proofs.YthlphfjmdgcpdaaGreatDoor

/- The reference's numbers: Neg, Abs, Add, Sub. -/
namespace Go.Proofs.YthlphfjmdgcpdaaGreatDoor
open Num
open Go.ChangeShapes Go.WideShapes Go.ChangeAt Go.RowKit
set_option linter.unusedVariables false
set_option linter.unusedSimpArgs false


end Go.Proofs.YthlphfjmdgcpdaaGreatDoor

/- Contracts of Go's library, laid from the shelf (printed by wip/bin/mk_sh.sh): math/bits, strings.Builder, strings.TrimLeft. -/
namespace Go.Proofs.YthlphfjmdgcpdaaGreatDoor
open Num
open Go.ChangeShapes Go.WideShapes Go.ChangeAt Go.RowKit
set_option linter.unusedVariables false
def sh_lays169_ren : Go.Shelf.Ren := ⟨fun | 169 => 119 | n => n, fun | 70 => 164 | 9 => 9 | 0 => 0 | 72 => 166 | 37 => 147 | 127 => 195 | 3 => 3 | 5 => 5 | n => n, fun | n => n⟩
theorem sh_lays169 : Go.Proofs.Lays.n169 Tryz.prog sh_lays169_ren := {
  mixed := by kernel_rfl
  f169 := Tryz.func119.trans (congrArg some (by kernel_rfl))
  t0 := Tryz.underlying0
  a0 := Tryz.isAgg0
  z0 := Tryz.sizeOf0
  v0 := Tryz.zeroValue0
  t3 := Tryz.underlying3
  a3 := Tryz.isAgg3
  z3 := Tryz.sizeOf3
  v3 := Tryz.zeroValue3
  t9 := Tryz.underlying9
  a9 := Tryz.isAgg9
  z9 := Tryz.sizeOf9
  v9 := Tryz.zeroValue9
  t37 := Tryz.underlying147
  a37 := Tryz.isAgg147
  z37 := Tryz.sizeOf147
  v37 := Tryz.zeroValue147
  t70 := Tryz.underlying164
  a70 := Tryz.isAgg164
  z70 := Tryz.sizeOf164
  v70 := Tryz.zeroValue164
  t72 := Tryz.underlying166
  a72 := Tryz.isAgg166
  z72 := Tryz.sizeOf166
  v72 := Tryz.zeroValue166
  t127 := Tryz.underlying195
  a127 := Tryz.isAgg195
  z127 := Tryz.sizeOf195
  v127 := Tryz.zeroValue195 }
theorem sh_Builder_Extra_169 : Go.Proofs.Builder.Extra Tryz.prog sh_lays169_ren := {
  sizeBuilder := by kernel_rfl
  liesBuilder := by kernel_rfl
  t5 := Tryz.underlying5
  a5 := Tryz.isAgg5
  z5 := Tryz.sizeOf5
  v5 := Tryz.zeroValue5
  infoByte := by kernel_rfl
  cellsByte := by kernel_rfl
  sizeByte := by kernel_rfl
  neB5 := by decide }
def sh_lays161_ren : Go.Shelf.Ren := ⟨fun | 161 => 158 | 231 => 167 | 227 => 168 | 233 => 169 | 235 => 170 | 228 => 174 | 197 => 175 | 151 => 176 | 260 => 178 | 152 => 179 | 137 => 138 | 119 => 180 | 224 => 181 | 225 => 182 | 217 => 159 | 266 => 171 | n => n, fun | 9 => 9 | 4 => 4 | 3 => 3 | 5 => 5 | 117 => 216 | 116 => 215 | 0 => 0 | 124 => 219 | 105 => 222 | 21 => 21 | 119 => 227 | 46 => 122 | 139 => 230 | 138 => 229 | n => n, fun | 3 => 1 | 4 => 2 | n => n⟩
theorem sh_lays161 : Go.Proofs.Lays.n161 Tryz.prog sh_lays161_ren := {
  mixed := by kernel_rfl
  f119 := Tryz.func180.trans (congrArg some (by kernel_rfl))
  f137 := Tryz.func138.trans (congrArg some (by kernel_rfl))
  f151 := Tryz.func176.trans (congrArg some (by kernel_rfl))
  f152 := Tryz.func179.trans (congrArg some (by kernel_rfl))
  f161 := Tryz.func158.trans (congrArg some (by kernel_rfl))
  f197 := Tryz.func175.trans (congrArg some (by kernel_rfl))
  f217 := Tryz.func159.trans (congrArg some (by kernel_rfl))
  f224 := Tryz.func181.trans (congrArg some (by kernel_rfl))
  f225 := Tryz.func182.trans (congrArg some (by kernel_rfl))
  f227 := Tryz.func168.trans (congrArg some (by kernel_rfl))
  f228 := Tryz.func174.trans (congrArg some (by kernel_rfl))
  f231 := Tryz.func167.trans (congrArg some (by kernel_rfl))
  f233 := Tryz.func169.trans (congrArg some (by kernel_rfl))
  f235 := Tryz.func170.trans (congrArg some (by kernel_rfl))
  f260 := Tryz.func178.trans (congrArg some (by kernel_rfl))
  f266 := Tryz.func171.trans (congrArg some (by kernel_rfl))
  t0 := Tryz.underlying0
  a0 := Tryz.isAgg0
  z0 := Tryz.sizeOf0
  v0 := Tryz.zeroValue0
  t3 := Tryz.underlying3
  a3 := Tryz.isAgg3
  z3 := Tryz.sizeOf3
  v3 := Tryz.zeroValue3
  t4 := Tryz.underlying4
  a4 := Tryz.isAgg4
  z4 := Tryz.sizeOf4
  v4 := Tryz.zeroValue4
  t5 := Tryz.underlying5
  a5 := Tryz.isAgg5
  z5 := Tryz.sizeOf5
  v5 := Tryz.zeroValue5
  t9 := Tryz.underlying9
  a9 := Tryz.isAgg9
  z9 := Tryz.sizeOf9
  v9 := Tryz.zeroValue9
  t21 := Tryz.underlying21
  a21 := Tryz.isAgg21
  z21 := Tryz.sizeOf21
  v21 := Tryz.zeroValue21
  t46 := Tryz.underlying122
  a46 := Tryz.isAgg122
  z46 := Tryz.sizeOf122
  v46 := Tryz.zeroValue122
  t105 := Tryz.underlying222
  a105 := Tryz.isAgg222
  z105 := Tryz.sizeOf222
  v105 := Tryz.zeroValue222
  t116 := Tryz.underlying215
  a116 := Tryz.isAgg215
  z116 := Tryz.sizeOf215
  t117 := Tryz.underlying216
  a117 := Tryz.isAgg216
  z117 := Tryz.sizeOf216
  v117 := Tryz.zeroValue216
  t119 := Tryz.underlying227
  a119 := Tryz.isAgg227
  z119 := Tryz.sizeOf227
  t124 := Tryz.underlying219
  a124 := Tryz.isAgg219
  z124 := Tryz.sizeOf219
  v124 := Tryz.zeroValue219
  t138 := Tryz.underlying229
  a138 := Tryz.isAgg229
  z138 := Tryz.sizeOf229
  v138 := Tryz.zeroValue229
  t139 := Tryz.underlying230
  a139 := Tryz.isAgg230
  z139 := Tryz.sizeOf230
  v139 := Tryz.zeroValue230
  g3 := by kernel_rfl
  g4 := by kernel_rfl }
def sh_lays133_ren : Go.Shelf.Ren := ⟨fun | 133 => 149 | 128 => 164 | n => n, fun | 51 => 121 | 3 => 3 | 4 => 4 | 46 => 122 | 5 => 5 | 9 => 9 | n => n, fun | n => n⟩
theorem sh_lays133 : Go.Proofs.Lays.n133 Tryz.prog sh_lays133_ren := {
  mixed := by kernel_rfl
  f128 := Tryz.func164.trans (congrArg some (by kernel_rfl))
  f133 := Tryz.func149.trans (congrArg some (by kernel_rfl))
  t3 := Tryz.underlying3
  a3 := Tryz.isAgg3
  z3 := Tryz.sizeOf3
  v3 := Tryz.zeroValue3
  t4 := Tryz.underlying4
  a4 := Tryz.isAgg4
  z4 := Tryz.sizeOf4
  v4 := Tryz.zeroValue4
  t5 := Tryz.underlying5
  a5 := Tryz.isAgg5
  z5 := Tryz.sizeOf5
  v5 := Tryz.zeroValue5
  t9 := Tryz.underlying9
  a9 := Tryz.isAgg9
  z9 := Tryz.sizeOf9
  v9 := Tryz.zeroValue9
  t46 := Tryz.underlying122
  a46 := Tryz.isAgg122
  z46 := Tryz.sizeOf122
  v46 := Tryz.zeroValue122
  t51 := Tryz.underlying121
  a51 := Tryz.isAgg121
  z51 := Tryz.sizeOf121
  v51 := Tryz.zeroValue121 }

def sh_lays166_ren : Go.Shelf.Ren := ⟨fun | 166 => 118 | 240 => 146 | 276 => 162 | n => n, fun | 0 => 0 | 3 => 3 | 4 => 4 | 5 => 5 | 9 => 9 | 20 => 20 | 37 => 147 | 70 => 164 | 72 => 166 | 75 => 169 | 80 => 66 | 164 => 209 | n => n, fun n => n⟩
theorem sh_lays166 : Go.Proofs.Lays.n166 Tryz.prog sh_lays166_ren := {
  mixed := by kernel_rfl
  f166 := Tryz.func118.trans (congrArg some (by kernel_rfl))
  f240 := Tryz.func146.trans (congrArg some (by kernel_rfl))
  f276 := Tryz.func162.trans (congrArg some (by kernel_rfl))
  t0 := Tryz.underlying0
  a0 := Tryz.isAgg0
  z0 := Tryz.sizeOf0
  v0 := Tryz.zeroValue0
  t3 := Tryz.underlying3
  a3 := Tryz.isAgg3
  z3 := Tryz.sizeOf3
  v3 := Tryz.zeroValue3
  t4 := Tryz.underlying4
  a4 := Tryz.isAgg4
  z4 := Tryz.sizeOf4
  v4 := Tryz.zeroValue4
  t9 := Tryz.underlying9
  a9 := Tryz.isAgg9
  z9 := Tryz.sizeOf9
  v9 := Tryz.zeroValue9
  t20 := Tryz.underlying20
  a20 := Tryz.isAgg20
  z20 := Tryz.sizeOf20
  v20 := Tryz.zeroValue20
  t37 := Tryz.underlying147
  a37 := Tryz.isAgg147
  z37 := Tryz.sizeOf147
  v37 := Tryz.zeroValue147
  t70 := Tryz.underlying164
  a70 := Tryz.isAgg164
  z70 := Tryz.sizeOf164
  v70 := Tryz.zeroValue164
  t72 := Tryz.underlying166
  a72 := Tryz.isAgg166
  z72 := Tryz.sizeOf166
  v72 := Tryz.zeroValue166
  t75 := Tryz.underlying169
  a75 := Tryz.isAgg169
  z75 := Tryz.sizeOf169
  v75 := Tryz.zeroValue169
  t164 := Tryz.underlying209
  a164 := Tryz.isAgg209
  z164 := Tryz.sizeOf209
  v164 := Tryz.zeroValue209 }
theorem sh_Builder_Extra_166 : Go.Proofs.Builder.Extra Tryz.prog sh_lays166_ren := {
  sizeBuilder := by kernel_rfl
  liesBuilder := by kernel_rfl
  t5 := Tryz.underlying5
  a5 := Tryz.isAgg5
  z5 := Tryz.sizeOf5
  v5 := Tryz.zeroValue5
  infoByte := by kernel_rfl
  cellsByte := by kernel_rfl
  sizeByte := by kernel_rfl
  neB5 := by decide }

theorem lz32_c (x : Nat) (w : World) (h : x < BB) :
    Calls Tryz.prog 149 #[.int .u32 (x : Int)] w fun e w' => e = .returned (.int .i64 (32 - (bitN x : Int))) ∧ w = w' := by
  unfold BB at h
  have := Go.Proofs.Any.bits_LeadingZeros32 sh_lays133 (x : Int) w (by omega) (by omega)
  rw [Int.toNat_natCast, bitLen_eq x (by omega)] at this
  refine this.mono ?_
  rintro e w' ⟨rfl, rfl⟩
  exact ⟨rfl, rfl⟩
/-- a builder of the call's own that holds the bytes l -/
def Bld (B b : Nat) (l : List UInt8) (w : World) : Prop := Lib.IsBuilder 166 5 B b (Lib.byteCells l) w
theorem bytes_str (s : ByteArray) : Lib.strCells s = Lib.byteCells s.data.toList := rfl
theorem bytes_app (l m : List UInt8) : Lib.byteCells (l ++ m) = Lib.byteCells l ++ Lib.byteCells m := by simp [Lib.byteCells]
theorem bwrite_c (B b : Nat) (l : List UInt8) (s : ByteArray) (w : World) (h : Bld B b l w) (hlen : l.length + s.size ≤ 1099511627776) (hB : B ≤ w.heap.size) :
    Calls Tryz.prog 118 #[.pointer (some ⟨b, 0, none⟩), .string s] w fun e w' => e = .returned (.tuple #[.int .i64 s.size, .nilIface]) ∧ Bld B b (l ++ s.data.toList) w' ∧ Below B w w' := by
  refine (Go.Proofs.Any.Builder_WriteString sh_lays166 sh_Builder_Extra_166 B b (Lib.byteCells l) s w h (by rw [Lib.byteCells_length]; omega) hB).mono ?_
  rintro e w' ⟨rfl, h1, h2⟩
  refine ⟨rfl, ?_, h2⟩
  unfold Bld
  rw [bytes_app, ← bytes_str]
  exact .inr h1
theorem bstring_c (B b : Nat) (l : List UInt8) (w : World) (h : Bld B b l w) (hB : B ≤ w.heap.size) :
    Calls Tryz.prog 119 #[.pointer (some ⟨b, 0, none⟩)] w fun e w' => e = .returned (.string ⟨l.toArray⟩) ∧ Below B w w' :=
  Go.Proofs.Any.Builder_String_any sh_lays169 sh_Builder_Extra_169 B b l w h hB
theorem trimLeft_c (s : ByteArray) (w : World) :
    Calls Tryz.prog 158 #[.string s, .string ⟨#[48]⟩] w fun e w' => e = .returned (.string ⟨(Lib.trimLeftB s.data.toList 48).toArray⟩) ∧ w = w' := by
  refine (Go.Proofs.Any.strings_TrimLeft_one sh_lays161 s 48 (by decide) w).mono ?_
  rintro e w' ⟨rfl, rfl⟩
  exact ⟨rfl, rfl⟩
end Go.Proofs.YthlphfjmdgcpdaaGreatDoor

/- The reference's numbers: bits, bit. -/
namespace Go.Proofs.YthlphfjmdgcpdaaGreatDoor
open Num
open Go.ChangeShapes Go.WideShapes Go.ChangeAt Go.RowKit
set_option linter.unusedVariables false
set_option linter.unusedSimpArgs false

set_option maxRecDepth 100000 in
set_option maxHeartbeats 1000000 in
theorem rbits_c (a : Option Addr) (ca : Nat) (l : List Nat) (w : World) (ha : U32 w a ca l) (hl : NumR.Limbs l) (hn : Nrm l) (h1 : l.length ≤ 2147483650) :
    Calls Tryz.prog 140 #[.slice a l.length ca] w fun e w' => e = .returned (.int .i64 (bitN (NumR.val l))) ∧ w = w' := by
  cases hk : l.length with
  | zero =>
    obtain rfl : l = [] := List.length_eq_zero_iff.1 hk
    go_enter Tryz.func140, Tryz.ntmps140
    go_wp2
    go_ret
    exact ⟨rfl, rfl⟩
  | succ k =>
    rcases ha.2.2.2 with h0 | ⟨ba, oa, rfl, hca⟩
    · subst h0; simp at hk
    have c0 := hca k (by omega)
    have hv := NumR.bitN_nrm hl hn hk
    have hx := NumR.limb_get hl k
    have HV := Lib.hid hv
    clear hv
    generalize l.getD k 0 = x at *
    have hkz : (((k + 1 : Nat) : Int) == 0) = false := by rw [beq_eq_false_iff_ne]; omega
    have hx' : x < 65536 := hx
    have hbx : bitN x ≤ 16 := NumR.bitN_le (n := 16) hx
    go_enter Tryz.func140, Tryz.ntmps140
    go_wp2
    go_loop [3, 4] (fun n t => ∃ j y : Nat, n = .int .i64 (16 * (k : Int) + (j : Int)) ∧ t = .int .u32 y ∧ y ≤ x ∧ Hid (j + bitN y = bitN x)) (fun _ t => (intOf t).toNat)
    case atStart => exact ⟨0, x, by simp, rfl, Nat.le_refl _, Lib.hid (by omega)⟩
    case round =>
      obtain ⟨j, y, rfl, rfl, hy, hj⟩ := hrel
      have hj16 : j ≤ 16 := by have := hj.out; omega
      by_cases hy0 : 0 < y
      · have HH := Lib.hid (show j + 1 + bitN (y / 2) = bitN x by have := bitN_half (Nat.ne_of_gt hy0); have := hj.out; omega)
        obtain ⟨z, hz⟩ : ∃ z, z = y / 2 := ⟨_, rfl⟩
        rw [← hz] at HH
        have e1 : (y : Int) / 2 = (z : Int) := by omega
        have e2 : (y : Int).tdiv 2 = (z : Int) := by rw [Int.tdiv_eq_ediv_of_nonneg (by omega)]; exact e1
        have hzy : z < y := by omega
        clear hz
        go_wp2
        exact ⟨⟨j + 1, z, by first | rfl | (congr 1; omega) | (congr 1), rfl, by omega, HH⟩, by simp [intOf] <;> omega⟩
      · obtain rfl : y = 0 := by omega
        have HE := Lib.hid (show 16 * (k : Int) + (j : Int) = (bitN (NumR.val l) : Int) by have := hj.out; have := HV.out; rw [show bitN 0 = 0 from rfl] at *; omega)
        go_wp2
        go_ret
        exact ⟨ret_int HE.out, rfl⟩

set_option maxRecDepth 100000 in
set_option maxHeartbeats 1000000 in
theorem rbit_c (a : Option Addr) (ca : Nat) (l : List Nat) (k : Nat) (w : World) (ha : U32 w a ca l) (hl : NumR.Limbs l) (hk : k / 16 < l.length) (h1 : l.length ≤ 2147483650) :
    Calls Tryz.prog 141 #[.slice a l.length ca, .int .i64 (k : Int)] w fun e w' => e = .returned (.int .u32 ((NumR.val l / 2 ^ k % 2 : Nat) : Int)) ∧ w = w' := by
  rcases ha.2.2.2 with h0 | ⟨ba, oa, rfl, hca⟩
  · subst h0; simp at hk
  have c0 := hca (k / 16) hk
  have hx := NumR.limb_get hl (k / 16)
  have HV := Lib.hid (NumR.bit_val hl k)
  have hkb : k ≤ 34359738416 := by omega
  generalize l.getD (k / 16) 0 = x at *
  obtain ⟨q, hq⟩ : ∃ q, q = k / 16 := ⟨_, rfl⟩
  obtain ⟨m, hm⟩ : ∃ m, m = k % 16 := ⟨_, rfl⟩
  rw [← hq] at c0 hk
  rw [← hm] at HV
  have e1 : (k : Int) / 16 = (q : Int) := by omega
  have e1' : (k : Int).tdiv 16 = (q : Int) := by rw [Int.tdiv_eq_ediv_of_nonneg (by omega)]; exact e1
  have e2 : (k : Int) % 16 = (m : Int) := by omega
  have e2' : (k : Int).tmod 16 = (m : Int) := by rw [Int.tmod_eq_emod_of_nonneg (by omega)]; exact e2
  have hm16 : m < 16 := by omega
  have hqz : (q : Int) < (l.length : Int) := by omega
  have hx' : x < 65536 := hx
  obtain ⟨y, hy⟩ : ∃ y, y = x / 2 ^ m := ⟨_, rfl⟩
  rw [← hy] at HV
  have hyx : y ≤ x := by rw [hy]; exact Nat.div_le_self _ _
  have e3 : (x : Int) / 2 ^ m = (y : Int) := by rw [hy, Int.natCast_ediv, Int.natCast_pow]; rfl
  have e4 : bits .and .u32 (y : Int) 1 = ((y % 2 : Nat) : Int) := by
    have := bits_and_u32_nat y 1 (by omega) (by omega)
    rw [Nat.and_one_is_mod] at this
    exact this
  obtain ⟨r, hr⟩ : ∃ r, r = y % 2 := ⟨_, rfl⟩
  rw [← hr] at e4 HV
  clear hq hm hy hr ha hca
  go_enter Tryz.func141, Tryz.ntmps141
  go_wp2
  go_ret
  exact ⟨by rw [← HV.out]; rfl, rfl⟩
end Go.Proofs.YthlphfjmdgcpdaaGreatDoor

/- Plain: long division, limb by limb. -/
namespace Go.Proofs.YthlphfjmdgcpdaaGreatDoor.Num
/-- i limbs of a list, from the k-th on -/
def win (U : List Nat) (k i : Nat) : Nat := val ((U.drop k).take i)
theorem take_any (l : List Nat) (k : Nat) : val (l.take (k + 1)) = val (l.take k) + l.getD k 0 * BB ^ k := by
  by_cases h : k < l.length
  · exact val_take_succ h
  · rw [List.take_of_length_le (by omega), List.take_of_length_le (by omega)]; simp [show l.length ≤ k by omega]
theorem win_zero (U : List Nat) (k : Nat) : win U k 0 = 0 := by simp [win, val]
theorem win_succ {U : List Nat} {k i : Nat} (h : k + i < U.length) : win U k (i + 1) = win U k i + U.getD (k + i) 0 * BB ^ i := by
  unfold win
  rw [val_take_succ (by simp; omega)]
  simp [List.getElem?_drop]
theorem win_set {U : List Nat} {k i j x : Nat} (h : j < k ∨ k + i ≤ j) : win (U.set j x) k i = win U k i := by
  unfold win
  congr 1
  apply List.ext_getElem?
  intro m
  simp only [List.getElem?_take, List.getElem?_drop, List.getElem?_set]
  by_cases hm : m < i
  · rw [if_pos hm, if_neg (by omega)]; simp [hm]
  · simp [hm]
theorem win_lt {U : List Nat} (h : Limbs U) (k i : Nat) : win U k i < BB ^ i := by
  unfold win
  refine Nat.lt_of_lt_of_le (val_lt (fun x hx => h x (List.mem_of_mem_drop (List.mem_of_mem_take hx)))) (Nat.pow_le_pow_right BB_pos ?_)
  simp; omega
theorem win_set_succ {U : List Nat} {k i x : Nat} (h : k + i < U.length) : win (U.set (k + i) x) k (i + 1) = win U k i + x * BB ^ i := by
  rw [win_succ (by simpa using h), win_set (.inr (Nat.le_refl _))]
  simp [h]
theorem getD_set_far {l : List Nat} {i j x : Nat} (h : i ≠ j) : (l.set i x).getD j 0 = l.getD j 0 := getD_set_ne h
/-- v, so many times, is taken: one limb -/
theorem less_arith {W V W0 c b P vi t ui m c1 r b1 B : Nat} (h : W + V * t = W0 + (c + b) * P) (hc : c + vi * t = c1 * B + m) (hr : r + m + b = ui + b1 * B) :
    W + r * P + (V + vi * P) * t = W0 + ui * P + (c1 + b1) * (B * P) := by
  have e1 : (V + vi * P) * t = V * t + vi * t * P := by rw [Nat.add_mul]; congr 1; ac_rfl
  have e2 : (c1 + b1) * (B * P) = c1 * B * P + b1 * B * P := by rw [Nat.add_mul]; congr 1 <;> ac_rfl
  have e3 : c * P + vi * t * P = c1 * B * P + m * P := by rw [← Nat.add_mul, hc, Nat.add_mul]
  have e4 : r * P + m * P + b * P = ui * P + b1 * B * P := by rw [← Nat.add_mul, ← Nat.add_mul, hr, Nat.add_mul]
  have e5 : (c + b) * P = c * P + b * P := Nat.add_mul _ _ _
  rw [e1, e2]
  omega
theorem back_arith {W V W1 c P vi ui c1 r B : Nat} (h : W + c * P = W1 + V) (hc : c + ui + vi = c1 * B + r) :
    W + r * P + c1 * (B * P) = W1 + ui * P + (V + vi * P) := by
  have e1 : c * P + ui * P + vi * P = c1 * (B * P) + r * P := by
    rw [← Nat.add_mul, ← Nat.add_mul, hc, Nat.add_mul]; congr 1; ac_rfl
  omega
/-- a list's value, by its two highest limbs -/
theorem top_two {v : List Nat} {n : Nat} (h : v.length = n + 2) : val v = v.getD (n + 1) 0 * BB ^ (n + 1) + v.getD n 0 * BB ^ n + val (v.take n) := by
  have h1 := val_take_succ (l := v) (k := n + 1) (by omega)
  have h2 := val_take_succ (l := v) (k := n) (by omega)
  rw [List.take_of_length_le (by omega)] at h1
  omega
theorem win_top {U : List Nat} {k n : Nat} (h : k + (n + 3) ≤ U.length) : win U k (n + 3) = (U.getD (k + (n + 2)) 0 * BB + U.getD (k + (n + 1)) 0) * BB ^ (n + 1) + U.getD (k + n) 0 * BB ^ n + win U k n := by
  rw [win_succ (by omega), win_succ (by omega), win_succ (by omega)]
  have : BB ^ (n + 2) = BB * BB ^ (n + 1) := by rw [Nat.pow_succ BB (n + 1), Nat.mul_comm]
  rw [this, Nat.add_mul]
  have : U.getD (k + (n + 2)) 0 * (BB * BB ^ (n + 1)) = U.getD (k + (n + 2)) 0 * BB * BB ^ (n + 1) := by ac_rfl
  omega
section
variable {N D v1 v2 low high u2 lowN P1 P2 B g r : Nat}
theorem kn_first (hP : 0 < P1) (hD : v1 * P1 ≤ D) (hN : N < (high + 1) * P1) (hD0 : 0 < D) (hv : 0 < v1) : N / D ≤ high / v1 := by
  rw [Nat.le_div_iff_mul_le hv]
  have h1 : N / D * D ≤ N := Nat.div_mul_le_self N D
  have h2 : N / D * (v1 * P1) ≤ N / D * D := Nat.mul_le_mul (Nat.le_refl _) hD
  have h3 : N / D * v1 * P1 < (high + 1) * P1 := by rw [Nat.mul_assoc]; omega
  have := Nat.lt_of_mul_lt_mul_right h3
  omega
theorem kn_big (h : N < D * B) : N / D < B := Nat.div_lt_of_lt_mul h
theorem kn_step (hP : 0 < P2) (hD0 : 0 < D) (hD : D = v1 * (B * P2) + v2 * P2 + low) (hN : N = high * (B * P2) + u2 * P2 + lowN) (hlN : lowN < P2) (hg : g * v1 + r = high) (ht : r * B + u2 < g * v2) : N / D < g := by
  rw [Nat.div_lt_iff_lt_mul hD0, hN, hD]
  have e1 : g * (v1 * (B * P2) + v2 * P2 + low) = g * v1 * (B * P2) + g * v2 * P2 + g * low := by
    rw [Nat.mul_add, Nat.mul_add]; congr 1; congr 1 <;> ac_rfl
  have e2 : high * (B * P2) = g * v1 * (B * P2) + r * B * P2 := by rw [← hg, Nat.add_mul]; congr 1; ac_rfl
  have e3 : (r * B + u2 + 1) * P2 ≤ g * v2 * P2 := Nat.mul_le_mul ht (Nat.le_refl _)
  have e4 : (r * B + u2 + 1) * P2 = r * B * P2 + u2 * P2 + P2 := by rw [Nat.add_mul, Nat.add_mul]; omega
  omega
theorem kn_exit (hv1 : 0 < v1) (hB : 0 < B) (hgB : g < B) (hlow : low < P2) (hD : D = v1 * (B * P2) + v2 * P2 + low) (hN : N = high * (B * P2) + u2 * P2 + lowN) (hg : g * v1 + r = high) (ht : g * v2 ≤ r * B + u2) : g * D < N + D := by
  have e1 : g * D = g * v1 * (B * P2) + g * v2 * P2 + g * low := by
    rw [hD, Nat.mul_add, Nat.mul_add]; congr 1; congr 1 <;> ac_rfl
  have e2 : high * (B * P2) = g * v1 * (B * P2) + r * B * P2 := by rw [← hg, Nat.add_mul]; congr 1; ac_rfl
  have e3 : g * v2 * P2 ≤ (r * B + u2) * P2 := Nat.mul_le_mul ht (Nat.le_refl _)
  have e4 : (r * B + u2) * P2 = r * B * P2 + u2 * P2 := Nat.add_mul _ _ _
  have e5 : g * low < B * P2 := Nat.mul_lt_mul'' hgB hlow
  have e6 : B * P2 ≤ v1 * (B * P2) := Nat.le_mul_of_pos_left _ hv1
  omega
theorem kn_far (hlow : v2 * P2 + low < B * P2) (hD : D = v1 * (B * P2) + v2 * P2 + low) (hN : N = high * (B * P2) + u2 * P2 + lowN) (hg : g * v1 + r = high) (hr : g ≤ r) : g * D ≤ N := by
  have e1 : D ≤ (v1 + 1) * (B * P2) := by rw [Nat.add_mul]; omega
  have e2 : g * D ≤ g * ((v1 + 1) * (B * P2)) := Nat.mul_le_mul (Nat.le_refl _) e1
  have e3 : g * ((v1 + 1) * (B * P2)) = (g * v1 + g) * (B * P2) := by rw [← Nat.mul_assoc, Nat.mul_add, Nat.mul_one]
  have e4 : (g * v1 + g) * (B * P2) ≤ high * (B * P2) := Nat.mul_le_mul (by omega) (Nat.le_refl _)
  omega
end
theorem low_two {v2 low P2 B : Nat} (h2 : v2 < B) (hl : low < P2) : v2 * P2 + low < B * P2 := by
  have : (v2 + 1) * P2 ≤ B * P2 := Nat.mul_le_mul h2 (Nat.le_refl _)
  rw [Nat.add_mul] at this
  omega
theorem kn_done {N D g W : Nat} (hD : 0 < D) (hq : N / D ≤ g) (h : W + D * g = N) : N / D = g ∧ N % D = W := by
  have h1 : g ≤ N / D := by rw [Nat.le_div_iff_mul_le hD, Nat.mul_comm]; omega
  have h2 : N / D = g := by omega
  refine ⟨h2, ?_⟩
  have := Nat.div_add_mod N D
  rw [h2] at this
  omega
theorem kn_over {N D g W P : Nat} (hD : 0 < D) (hg : g * D < N + D) (hW : W < P) (h : W + D * g = N + P) : g = N / D + 1 ∧ W + D = N % D + P := by
  have e : D * g = g * D := Nat.mul_comm _ _
  have h1 : N < g * D := by omega
  have h2 : N / D < g := (Nat.div_lt_iff_lt_mul hD).2 h1
  have h3 : g ≤ N / D + 1 := by
    apply Nat.le_of_not_lt
    intro hlt
    have : (N / D + 2) * D ≤ g * D := Nat.mul_le_mul hlt (Nat.le_refl _)
    have h4 := Nat.lt_div_mul_add (a := N) hD
    rw [Nat.add_mul] at this
    omega
  have hq : g = N / D + 1 := by omega
  refine ⟨hq, ?_⟩
  have := Nat.div_add_mod N D
  rw [hq, Nat.mul_add, Nat.mul_one] at h
  omega
theorem kn_back {R W P c : Nat} (hR : R < P) (hW : W < P) (h : W + c * P = R + P) : W = R := by
  rcases Nat.lt_or_ge c 1 with h0 | h0
  · obtain rfl : c = 0 := by omega
    omega
  · rcases Nat.lt_or_ge 1 c with h1 | h1
    · have : 2 * P ≤ c * P := Nat.mul_le_mul h1 (Nat.le_refl _)
      omega
    · obtain rfl : c = 1 := by omega
      omega
theorem val_cut {U : List Nat} {k : Nat} (h : k ≤ U.length) : val U = val (U.take k) + BB ^ k * val (U.drop k) := by
  conv => lhs; rw [← List.take_append_drop k U]
  rw [val_append, List.length_take, Nat.min_eq_left h]
end Go.Proofs.YthlphfjmdgcpdaaGreatDoor.Num

/- The reference's numbers: divide. -/
namespace Go.Proofs.YthlphfjmdgcpdaaGreatDoor
open Num
open Go.ChangeShapes Go.WideShapes Go.ChangeAt Go.RowKit
set_option linter.unusedVariables false
set_option linter.unusedSimpArgs false
/-- a slice of digits without high noughts -/
def NewN (w' : World) (u : Value) (v : Nat) : Prop := ∃ a c L, u = .slice a (List.length L) c ∧ U32 w' a c L ∧ NumR.Limbs L ∧ Nrm L ∧ NumR.val L = v
theorem NewN.keep {w w' : World} {u : Value} {v : Nat} (h : NewN w u v) (hb : Below w.heap.size w w') : NewN w' u v := by
  obtain ⟨a, c, L, h1, h2, h3⟩ := h
  exact ⟨a, c, L, h1, h2.keep hb, h3⟩
theorem rnormU (a : Option Addr) (ca : Nat) (l : List Nat) (w : World) (ha : U32 w a ca l) (hr : NumR.Limbs l) :
    Calls Tryz.prog 107 #[.bool false, .slice a l.length ca] w fun e w' => (∃ u, e = .returned (.agg #[.bool false, u]) ∧ NewN w' u (NumR.val l)) ∧ Below w.heap.size w w' :=
  (rnormK_c false a ca l w ha).mono fun e w' ⟨he, hb⟩ => ⟨⟨_, by rw [he]; rfl, a, ca, trimL l, rfl, (ha.cap (trim_prefix l)).keep hb, NumR.trim_limbs hr, trim_nrm l, NumR.val_trim l⟩, hb⟩
/-- digits in a row of the call's own, in a block from B on -/
def OwnB (B : Nat) (wr : World) (v : Value) (L : List Nat) : Prop := wr.ownsRow B 121 1 v L.length (cel L)
theorem OwnB.below {B : Nat} {wr w' : World} {v : Value} {L : List Nat} (h : OwnB B wr v L) (hb : Below wr.heap.size wr w') : OwnB B w' v L := own_below (w0 := wr) h hb
theorem OwnB.u32 {B : Nat} {w : World} {v : Value} {L : List Nat} (h : OwnB B w v L) (hL : Limbs L) : ∃ a c, v = .slice a L.length c ∧ U32 w a c L := own_u32 h hL
theorem OwnB.nil (B : Nat) (w : World) : OwnB B w (.slice none 0 0) [] := World.ownsRow_nil _ _ _ _
theorem OwnB.of {B : Nat} {w0 wr : World} {v : Value} {L : List Nat} (h : Own32 w0 wr v L) (hB : B ≤ w0.heap.size) : OwnB B wr v L := World.ownsRow.mono h.1 hB
theorem OwnB.ex {B : Nat} {wr : World} {v : Value} {L : List Nat} (h : OwnB B wr v L) : (v = .slice none 0 0 ∧ L = []) ∨ ∃ g cap, v = .slice (some ⟨g, 0, none⟩) L.length cap ∧ B ≤ g ∧ L.length ≤ cap := by
  obtain ⟨h0, h⟩ := h
  rcases h with ⟨rfl, h1⟩ | ⟨g, cap, cur, rfl, hg, _, hc, _⟩
  · exact .inl ⟨rfl, List.length_eq_zero_iff.1 h1⟩
  · exact .inr ⟨g, cap, rfl, hg, hc⟩
theorem OwnB.cell {B g cap : Nat} {wr : World} {L : List Nat} (h : OwnB B wr (.slice (some ⟨g, 0, none⟩) L.length cap) L) (k : Nat) (hk : k < L.length) : wr.cell? ⟨g, k, none⟩ = some (.int .u32 (L.getD k 0 : Nat)) := by
  rw [World.ownsRow.cellAt h k (by omega), cel_get L k hk]
theorem OwnB.frozen {B g cap : Nat} {wr : World} {L : List Nat} (h : OwnB B wr (.slice (some ⟨g, 0, none⟩) L.length cap) L) (k : Nat) : wr.frozen? ⟨g, k, none⟩ = false := World.ownsRow.frozenAt h k
theorem OwnB.set {B g cap : Nat} {wr : World} {L : List Nat} (h : OwnB B wr (.slice (some ⟨g, 0, none⟩) L.length cap) L) (k x : Nat) (hk : k < L.length) : OwnB B (wr.setCell ⟨g, k, none⟩ (.int .u32 (x : Int))) (.slice (some ⟨g, 0, none⟩) (L.set k x).length cap) (L.set k x) := by
  obtain ⟨hl, h1⟩ := h
  rcases h1 with ⟨h2, _⟩ | ⟨g', cap', cur, h2, hg, hh, hc, hm, hs, ht⟩
  · cases h2
  · cases h2
    refine ⟨by simp [cel_len], .inr ⟨g, cap, cur.setIfInBounds k (.int .u32 (x : Int)), rfl, hg, ?_, by simpa using hc, hm, by simpa using hs, ?_⟩⟩
    · unfold World.setCell
      simp only [Array.getElem?_modify, if_true]
      rw [hh]; rfl
    · rw [Array.toList_setIfInBounds, List.length_set, List.take_set, ht]
      simp [cel, List.map_set]
theorem OwnB.far {B : Nat} {wr : World} {v : Value} {L : List Nat} (h : OwnB B wr v L) {p : Addr} (hp : p.block < B) (u : Value) : OwnB B (wr.setCell p u) v L := ownsRow_setCell_below h hp u
theorem OwnB.cut {B g cap : Nat} {wr : World} {L M : List Nat} (h : OwnB B wr (.slice (some ⟨g, 0, none⟩) L.length cap) L) (hp : M <+: L) : OwnB B wr (.slice (some ⟨g, 0, none⟩) M.length cap) M := by
  obtain ⟨hl, h1⟩ := h
  have hml := hp.length_le
  rcases h1 with ⟨h2, _⟩ | ⟨g', cap', cur, h2, hg, hh, hc, hm, hs, ht⟩
  · cases h2
  · cases h2
    refine ⟨by simp [cel_len], .inr ⟨g, cap, cur, rfl, hg, hh, by omega, hm, hs, ?_⟩⟩
    obtain ⟨t, rfl⟩ := hp
    rw [Nat.mul_one] at *
    have : cur.toList.take M.length = (cur.toList.take (M ++ t).length).take M.length := by rw [List.take_take, Nat.min_eq_left (by simp)]
    rw [this, ht, cel_app]
    rw [List.take_left' (cel_len M)]
theorem OwnB.cut' {B : Nat} {wr : World} {a : Option Addr} {cap : Nat} {L M : List Nat} (h : OwnB B wr (.slice a L.length cap) L) (hp : M <+: L) : OwnB B wr (.slice a M.length cap) M := by
  rcases h.ex with ⟨h1, h2⟩ | ⟨g, c, h1, _⟩
  · subst h2
    obtain rfl : M = [] := List.prefix_nil.1 hp
    exact h
  · cases h1
    exact h.cut hp
theorem appB32 {ops : Array Oper} {rest : List Oper} {o : Oper} {a : Act} {Q : Exit → Act → World → Prop} {B : Nat} {wr : World} {v : Value} {L X : List Nat} {t : TypeId} (hgd : o.guard = none) {s x : Operand}
    (ho : o.op = .call { callee := .builtin .append, args := #[s, x], argTypes := #[34, 34] }) (hO : OwnB B wr v L) (hB : B ≤ wr.heap.size) (hs : a.eval s = v)
    {c : Nat} (hx : a.eval x = .slice (some ⟨wr.heap.size, 0, none⟩) X.length c) (hn : L.length + X.length ≤ 1099511627776)
    (h : ∀ v' w', OwnB B w' v' (L ++ X) → Out (fun k => v.ownBlock = some k) wr w' → wpList Tryz.prog ops Q rest (a.put o.dst v') w') : wpList Tryz.prog ops Q (o :: rest) a (wr.alloc (.cells (cel X).toArray t)) := by
  obtain ⟨i0, hi, hz0, hz1, hz2⟩ := info_parts info32
  refine wpList_append_own _ hgd s x 34 ho B 121 i0 (.int .u32 0) 1 4 Tryz.underlying34 hi hz0 hz1 hz2 rfl (by decide) v L.length (cel L) hs (World.ownsRow.alloc hO _) ⟨wr.heap.size, 0, none⟩ X.length c (cel X) hx (by rw [cel_len, Nat.mul_one]) (cells_new wr (cel X) t) (cel_one X) (by unfold maxLen; omega) (by omega) (by simp; omega) ?_
  intro v' w' hown hg _
  refine h v' w' (by unfold OwnB; rw [cel_app, List.length_append]; exact hown) (((Out.refl _ wr).alloc _).grown hg fun k hk _ => hk)

theorem fieldD (b : Bool) (a : Option Addr) (n c : Nat) (W : World) : (Instr.field 43 (.agg #[.bool b, .slice a n c]) 1).run Tryz.prog W = .ok (.slice a n c) W := by kernel_rfl

set_option maxRecDepth 100000 in
set_option maxHeartbeats 4000000 in
theorem rdiv1_c (a b : Option Addr) (ca cb : Nat) (A : List Nat) (c : Nat) (w : World) (ha : U32 w a ca A) (hb : U32 w b cb [c]) (hA : NumR.Limbs A) (hcB : c < NumR.BB) (hc : 0 < c) (h1 : A.length ≤ 2147483650) :
    Calls Tryz.prog 106 #[.slice a A.length ca, .slice b 1 cb] w fun e w' => (∃ u v, e = .returned (.tuple #[u, v]) ∧ NewN w' u (NumR.val A / c) ∧ NewN w' v (NumR.val A % c)) ∧ Below w.heap.size w w' := by
  rcases hb.2.2.2 with hn | ⟨bb, ob, rfl, hcell⟩
  · cases hn
  have c0 := hcell 0 (by simp)
  simp only [List.getD_cons_zero, Nat.add_zero] at c0
  have hmk := mk32 A.length (by omega)
  have hbz := cell_lt c0
  have hbne : bb ≠ w.heap.size := by omega
  have hbne' : w.heap.size ≠ bb := by omega
  have hcz : ((c : Int) == 0) = false := by simp; omega
  have hc' : c < 65536 := hcB
  clear hcell
  go_enter Tryz.func106, Tryz.ntmps106
  go_wp2
  clear hmk
  go_loopw [7, 8] (fun rx x wr => ∃ (k r : Nat) (O : List Nat), k ≤ A.length ∧ x = .int .i64 ((k : Int) - 1) ∧ rx = .int .u64 r ∧ r < c ∧ Blk wr w.heap.size O ∧ Hid (O.length = A.length) ∧ NumR.Limbs O ∧ Hid (∀ j, j < k → O.getD j 0 = 0) ∧ Hid (NumR.val O * c + r * NumR.BB ^ k + NumR.val (A.take k) = NumR.val A) ∧ Below w.heap.size w wr) (fun _ x _ => (intOf x + 1).toNat)
  case atStart => exact ⟨A.length, 0, List.replicate A.length 0, Nat.le_refl _, rfl, rfl, hc, blk_new w _, Lib.hid (by simp), (fun y hy => by simp at hy; rw [hy.2]; exact NumR.BB_pos), Lib.hid (fun j hj => by simp [List.getElem?_replicate, hj]), Lib.hid (by rw [NumR.val_zeros]; simp), bal (Below.refl _ _) _⟩
  case round =>
    obtain ⟨k, r, O, hk, rfl, rfl, hr, hO, hOl, hOL, hO0, hV, hB⟩ := hrel
    have d0 := bkeep hB c0
    cases k with
    | zero =>
      have HD := Lib.hid (kn_done (N := NumR.val A) (D := c) (g := NumR.val O) (W := r) hc (by
        have h := hV.out
        simp [NumR.val] at h
        rw [← h, Nat.add_comm, Nat.add_mul_div_right _ _ hc, Nat.div_eq_of_lt hr, Nat.zero_add]; exact Nat.le_refl _) (by have h := hV.out; simp [NumR.val] at h; rw [Nat.mul_comm]; omega))
      have hu := hO.u32 (limbs_of_r hOL) (by have := hOl.out; unfold maxLen; omega)
      have nc := fun W (h : Below wr.heap.size wr W) => rnormU (some ⟨w.heap.size, 0, none⟩) O.length O W (hu.keep h) hOL
      rw [hOl.out] at nc
      have nd := fun (g : Nat) (W : World) (hg : g = W.heap.size) => rnormU (some ⟨g, 0, none⟩) 1 [r] (W.alloc (.cells (cel [r]).toArray 121)) ((blk_at hg).u32 (fun x hx => by simp at hx; subst hx; unfold NumR.BB at hcB; unfold BB; omega) (by simp [maxLen])) (fun x hx => by simp at hx; subst hx; omega)
      have hr32 : (r : Int) % 4294967296 = (r : Int) := by omega
      clear hu hV hO hOL hOl
      have hfd := fieldD
      go_wp2_with fail
      (with_reducible refine (nc _ (Below.refl _ _)).mono ?_)
      rintro e w1 ⟨⟨u, rfl, hq⟩, hb1⟩
      have HQ := Lib.hid hq
      obtain ⟨a1, n1, L1, rfl, -⟩ := hq
      clear nc
      go_wp2_with fail
      refine (nd _ _ rfl).mono ?_
      rintro e w2 ⟨⟨u2, rfl, hq⟩, hb2⟩
      have HR := Lib.hid hq
      obtain ⟨a2, n2, L2, rfl, -⟩ := hq
      go_wp2
      go_ret2
      exact ⟨⟨_, _, rfl, by rw [HD.out.1]; exact HQ.out.keep (bthen (bal (Below.refl _ _) _) hb2), by rw [HD.out.2]; have := HR.out; simpa [NumR.val] using this⟩, bthen (bal (bthen hB hb1) _) hb2⟩
    | succ j =>
      rcases ha.2.2.2 with hl0 | ⟨ba, oa, rfl, hca⟩
      · subst hl0; simp at hk
      have c1 := bkeep hB (hca j (by omega))
      have hx := NumR.limb_get hA j
      have q0 := hO.cell j (by have := hOl.out; omega)
      have qf := hO.frozen j
      have HS := Lib.hid (NumR.short_step (O := O) (A := A) (j := j) (c := c) (rest := r) hc (by have := hOl.out; omega) (hO0.out j (by omega)) (by omega) hV.out)
      have hql := NumR.short_lt hr hx
      have hrl := Nat.mod_lt (r * NumR.BB + A.getD j 0) hc
      generalize A.getD j 0 = x at *
      generalize O.getD j 0 = o at *
      have hx' : x < 65536 := hx
      obtain ⟨t, ht⟩ : ∃ t, t = r * NumR.BB + x := ⟨_, rfl⟩
      rw [← ht] at HS hql hrl
      have et : (r : Int) * 65536 + (x : Int) = (t : Int) := by unfold NumR.BB at ht; omega
      have htB : t < 4294967296 := by unfold NumR.BB at ht; omega
      have e3 : (t : Int) / (c : Int) = ((t / c : Nat) : Int) := rfl
      have e4 : (t : Int) % (c : Int) = ((t % c : Nat) : Int) := rfl
      have e3' : (t : Int).tdiv (c : Int) = ((t / c : Nat) : Int) := rfl
      have e4' : (t : Int).tmod (c : Int) = ((t % c : Nat) : Int) := rfl
      generalize t / c = q at *
      generalize t % c = r2 at *
      have hq' : q < 65536 := hql
      have e6 : (q : Int) % 4294967296 = (q : Int) := by omega
      have qb := hO.set j q
      have ql := NumR.limbs_set hOL (k := j) hql
      have bs := bset hB (p := ⟨w.heap.size, j, none⟩) (Nat.le_refl _) (.int .u32 (q : Int))
      clear ht
      go_wp2
      refine ⟨⟨j, r2, O.set j q, by omega, by go_num, rfl, hrl, qb, Lib.hid (by simpa using hOl.out), ql, Lib.hid ?_, HS, bs⟩, by simp [intOf] <;> omega⟩
      intro i hi
      rw [Num.getD_set_ne (by omega)]
      exact hO0.out i (by omega)
end Go.Proofs.YthlphfjmdgcpdaaGreatDoor

