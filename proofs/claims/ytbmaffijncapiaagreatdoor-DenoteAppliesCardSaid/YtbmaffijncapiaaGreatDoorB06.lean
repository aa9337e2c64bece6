/- Texts of this seat, laid together: Sh, LimbI, Kn, LimbJ, NumT, Iter, Rng, Dec. What each theorem proves, and under which conditions, its statement says. -/
import Derived.Shelf.Spec.TrailingZeros
import Derived.Shelf.Strings.Builder1
import Derived.Shelf.Strings.Trim
import Derived.Test.YtbmaffijncapiaaGreatDoorB05
import Derived.RangeFuncNested
import Derived.RangeFuncBound
import Derived.RangeFuncCalls
import Derived.RangeFuncLeaves
import Derived.Shelf.Abstract
import Derived.Shelf.RegionOpen
import Derived.OwnWalkIn
import Derived.TacticsInMore
import Derived.LoopNIn
import Derived.LoopIn
import Derived.Deep.Cut
import Derived.Deep.DeepCutAuto
set_option maxRecDepth 100000
set_option maxHeartbeats 32000000
set_option linter.unusedVariables false
set_option linter.unusedSimpArgs false
namespace Go.Proofs.YtbmaffijncapiaaGreatDoor
open Go.ChangeShapes Go.WideShapes Go.ChangeAt Go.RowKit
section
open Num
def sh_lays169_ren : Go.Shelf.Ren := ⟨fun | 169 => 237 | n => n, fun | 70 => 284 | 9 => 9 | 0 => 0 | 72 => 286 | 37 => 173 | 127 => 308 | 3 => 3 | 5 => 5 | n => n, fun | n => n⟩
theorem sh_lays169 : Go.Proofs.Lays.n169 Tryz.prog sh_lays169_ren := {
 mixed := by kernel_rfl
 f169 := Tryz.func237.trans (congrArg some (by kernel_rfl))
 t0 := Tryz.underlying0
 a0 := Tryz.isAgg0
 z0 := Tryz.sizeOf0
 v0 := Tryz.zeroValue0
 t3 := Tryz.underlying3
 a3 := Tryz.isAgg3
 z3 := Tryz.sizeOf3
 v3 := Tryz.zeroValue3
 t9 := Tryz.underlying9
 a9 := Tryz.isAgg9
 z9 := Tryz.sizeOf9
 v9 := Tryz.zeroValue9
 t37 := Tryz.underlying173
 a37 := Tryz.isAgg173
 z37 := Tryz.sizeOf173
 v37 := Tryz.zeroValue173
 t70 := Tryz.underlying284
 a70 := Tryz.isAgg284
 z70 := Tryz.sizeOf284
 v70 := Tryz.zeroValue284
 t72 := Tryz.underlying286
 a72 := Tryz.isAgg286
 z72 := Tryz.sizeOf286
 v72 := Tryz.zeroValue286
 t127 := Tryz.underlying308
 a127 := Tryz.isAgg308
 z127 := Tryz.sizeOf308
 v127 := Tryz.zeroValue308 }
theorem sh_Builder_Extra_169 : Go.Proofs.Builder.Extra Tryz.prog sh_lays169_ren := {
 sizeBuilder := by kernel_rfl
 liesBuilder := by kernel_rfl
 t5 := Tryz.underlying5
 a5 := Tryz.isAgg5
 z5 := Tryz.sizeOf5
 v5 := Tryz.zeroValue5
 infoByte := by kernel_rfl
 cellsByte := by kernel_rfl
 sizeByte := by kernel_rfl
 neB5 := by decide }
def sh_lays161_ren : Go.Shelf.Ren := ⟨fun | 161 => 260 | 231 => 273 | 227 => 274 | 233 => 275 | 235 => 276 | 228 => 283 | 197 => 284 | 151 => 285 | 260 => 287 | 152 => 288 | 137 => 289 | 119 => 290 | 224 => 291 | 225 => 292 | 217 => 293 | 266 => 294 | n => n, fun | 9 => 9 | 4 => 4 | 3 => 3 | 5 => 5 | 117 => 314 | 116 => 313 | 0 => 0 | 124 => 317 | 105 => 325 | 21 => 21 | 119 => 330 | 46 => 194 | 139 => 333 | 138 => 332 | n => n, fun | 3 => 1 | 4 => 2 | n => n⟩
theorem sh_lays161 : Go.Proofs.Lays.n161 Tryz.prog sh_lays161_ren := {
 mixed := by kernel_rfl
 f119 := Tryz.func290.trans (congrArg some (by kernel_rfl))
 f137 := Tryz.func289.trans (congrArg some (by kernel_rfl))
 f151 := Tryz.func285.trans (congrArg some (by kernel_rfl))
 f152 := Tryz.func288.trans (congrArg some (by kernel_rfl))
 f161 := Tryz.func260.trans (congrArg some (by kernel_rfl))
 f197 := Tryz.func284.trans (congrArg some (by kernel_rfl))
 f217 := Tryz.func293.trans (congrArg some (by kernel_rfl))
 f224 := Tryz.func291.trans (congrArg some (by kernel_rfl))
 f225 := Tryz.func292.trans (congrArg some (by kernel_rfl))
 f227 := Tryz.func274.trans (congrArg some (by kernel_rfl))
 f228 := Tryz.func283.trans (congrArg some (by kernel_rfl))
 f231 := Tryz.func273.trans (congrArg some (by kernel_rfl))
 f233 := Tryz.func275.trans (congrArg some (by kernel_rfl))
 f235 := Tryz.func276.trans (congrArg some (by kernel_rfl))
 f260 := Tryz.func287.trans (congrArg some (by kernel_rfl))
 f266 := Tryz.func294.trans (congrArg some (by kernel_rfl))
 t0 := Tryz.underlying0
 a0 := Tryz.isAgg0
 z0 := Tryz.sizeOf0
 v0 := Tryz.zeroValue0
 t3 := Tryz.underlying3
 a3 := Tryz.isAgg3
 z3 := Tryz.sizeOf3
 v3 := Tryz.zeroValue3
 t4 := Tryz.underlying4
 a4 := Tryz.isAgg4
 z4 := Tryz.sizeOf4
 v4 := Tryz.zeroValue4
 t5 := Tryz.underlying5
 a5 := Tryz.isAgg5
 z5 := Tryz.sizeOf5
 v5 := Tryz.zeroValue5
 t9 := Tryz.underlying9
 a9 := Tryz.isAgg9
 z9 := Tryz.sizeOf9
 v9 := Tryz.zeroValue9
 t21 := Tryz.underlying21
 a21 := Tryz.isAgg21
 z21 := Tryz.sizeOf21
 v21 := Tryz.zeroValue21
 t46 := Tryz.underlying194
 a46 := Tryz.isAgg194
 z46 := Tryz.sizeOf194
 v46 := Tryz.zeroValue194
 t105 := Tryz.underlying325
 a105 := Tryz.isAgg325
 z105 := Tryz.sizeOf325
 v105 := Tryz.zeroValue325
 t116 := Tryz.underlying313
 a116 := Tryz.isAgg313
 z116 := Tryz.sizeOf313
 t117 := Tryz.underlying314
 a117 := Tryz.isAgg314
 z117 := Tryz.sizeOf314
 v117 := Tryz.zeroValue314
 t119 := Tryz.underlying330
 a119 := Tryz.isAgg330
 z119 := Tryz.sizeOf330
 t124 := Tryz.underlying317
 a124 := Tryz.isAgg317
 z124 := Tryz.sizeOf317
 v124 := Tryz.zeroValue317
 t138 := Tryz.underlying332
 a138 := Tryz.isAgg332
 z138 := Tryz.sizeOf332
 v138 := Tryz.zeroValue332
 t139 := Tryz.underlying333
 a139 := Tryz.isAgg333
 z139 := Tryz.sizeOf333
 v139 := Tryz.zeroValue333
 g3 := by kernel_rfl
 g4 := by kernel_rfl }
def sh_lays133_ren : Go.Shelf.Ren := ⟨fun | 133 => 261 | 128 => 219 | n => n, fun | 51 => 177 | 3 => 3 | 4 => 4 | 46 => 194 | 5 => 5 | 9 => 9 | n => n, fun | n => n⟩
theorem sh_lays133 : Go.Proofs.Lays.n133 Tryz.prog sh_lays133_ren := {
 mixed := by kernel_rfl
 f128 := Tryz.func219.trans (congrArg some (by kernel_rfl))
 f133 := Tryz.func261.trans (congrArg some (by kernel_rfl))
 t3 := Tryz.underlying3
 a3 := Tryz.isAgg3
 z3 := Tryz.sizeOf3
 v3 := Tryz.zeroValue3
 t4 := Tryz.underlying4
 a4 := Tryz.isAgg4
 z4 := Tryz.sizeOf4
 v4 := Tryz.zeroValue4
 t5 := Tryz.underlying5
 a5 := Tryz.isAgg5
 z5 := Tryz.sizeOf5
 v5 := Tryz.zeroValue5
 t9 := Tryz.underlying9
 a9 := Tryz.isAgg9
 z9 := Tryz.sizeOf9
 v9 := Tryz.zeroValue9
 t46 := Tryz.underlying194
 a46 := Tryz.isAgg194
 z46 := Tryz.sizeOf194
 v46 := Tryz.zeroValue194
 t51 := Tryz.underlying177
 a51 := Tryz.isAgg177
 z51 := Tryz.sizeOf177
 v51 := Tryz.zeroValue177 }

def sh_lays166_ren : Go.Shelf.Ren := ⟨fun | 166 => 236 | 240 => 268 | 276 => 281 | n => n, fun | 0 => 0 | 3 => 3 | 4 => 4 | 5 => 5 | 9 => 9 | 20 => 20 | 37 => 173 | 70 => 284 | 72 => 286 | 75 => 289 | 80 => 59 | 164 => 321 | n => n, fun n => n⟩
theorem sh_lays166 : Go.Proofs.Lays.n166 Tryz.prog sh_lays166_ren := {
 mixed := by kernel_rfl
 f166 := Tryz.func236.trans (congrArg some (by kernel_rfl))
 f240 := Tryz.func268.trans (congrArg some (by kernel_rfl))
 f276 := Tryz.func281.trans (congrArg some (by kernel_rfl))
 t0 := Tryz.underlying0
 a0 := Tryz.isAgg0
 z0 := Tryz.sizeOf0
 v0 := Tryz.zeroValue0
 t3 := Tryz.underlying3
 a3 := Tryz.isAgg3
 z3 := Tryz.sizeOf3
 v3 := Tryz.zeroValue3
 t4 := Tryz.underlying4
 a4 := Tryz.isAgg4
 z4 := Tryz.sizeOf4
 v4 := Tryz.zeroValue4
 t9 := Tryz.underlying9
 a9 := Tryz.isAgg9
 z9 := Tryz.sizeOf9
 v9 := Tryz.zeroValue9
 t20 := Tryz.underlying20
 a20 := Tryz.isAgg20
 z20 := Tryz.sizeOf20
 v20 := Tryz.zeroValue20
 t37 := Tryz.underlying173
 a37 := Tryz.isAgg173
 z37 := Tryz.sizeOf173
 v37 := Tryz.zeroValue173
 t70 := Tryz.underlying284
 a70 := Tryz.isAgg284
 z70 := Tryz.sizeOf284
 v70 := Tryz.zeroValue284
 t72 := Tryz.underlying286
 a72 := Tryz.isAgg286
 z72 := Tryz.sizeOf286
 v72 := Tryz.zeroValue286
 t75 := Tryz.underlying289
 a75 := Tryz.isAgg289
 z75 := Tryz.sizeOf289
 v75 := Tryz.zeroValue289
 t164 := Tryz.underlying321
 a164 := Tryz.isAgg321
 z164 := Tryz.sizeOf321
 v164 := Tryz.zeroValue321 }
theorem sh_Builder_Extra_166 : Go.Proofs.Builder.Extra Tryz.prog sh_lays166_ren := {
 sizeBuilder := by kernel_rfl
 liesBuilder := by kernel_rfl
 t5 := Tryz.underlying5
 a5 := Tryz.isAgg5
 z5 := Tryz.sizeOf5
 v5 := Tryz.zeroValue5
 infoByte := by kernel_rfl
 cellsByte := by kernel_rfl
 sizeByte := by kernel_rfl
 neB5 := by decide }

theorem lz32_c (x : Nat) (w : World) (h : x < BB) :
 Calls Tryz.prog 261 #[.int .u32 (x : Int)] w fun e w' => e = .returned (.int .i64 (32 - (bitN x : Int))) ∧ w = w' := by
 unfold BB at h
 have := Go.Proofs.Any.bits_LeadingZeros32 sh_lays133 (x : Int) w (by omega) (by omega)
 rw [Int.toNat_natCast, bitLen_eq x (by omega)] at this
 refine this.mono ?_
 rintro e w' ⟨rfl, rfl⟩
 exact ⟨rfl, rfl⟩
def Bld (B b : Nat) (l : List UInt8) (w : World) : Prop := Lib.IsBuilder 286 5 B b (Lib.byteCells l) w
theorem bytes_str (s : ByteArray) : Lib.strCells s = Lib.byteCells s.data.toList := rfl
theorem bytes_app (l m : List UInt8) : Lib.byteCells (l ++ m) = Lib.byteCells l ++ Lib.byteCells m := by simp [Lib.byteCells]
theorem bwrite_c (B b : Nat) (l : List UInt8) (s : ByteArray) (w : World) (h : Bld B b l w) (hlen : l.length + s.size ≤ 1099511627776) (hB : B ≤ w.heap.size) :
 Calls Tryz.prog 236 #[.pointer (some ⟨b, 0, none⟩), .string s] w fun e w' => e = .returned (.tuple #[.int .i64 s.size, .nilIface]) ∧ Bld B b (l ++ s.data.toList) w' ∧ Below B w w' := by
 refine (Go.Proofs.Any.Builder_WriteString sh_lays166 sh_Builder_Extra_166 B b (Lib.byteCells l) s w h (by rw [Lib.byteCells_length]; omega) hB).mono ?_
 rintro e w' ⟨rfl, h1, h2⟩
 refine ⟨rfl, ?_, h2⟩
 unfold Bld
 rw [bytes_app, ← bytes_str]
 exact .inr h1
theorem bstring_c (B b : Nat) (l : List UInt8) (w : World) (h : Bld B b l w) (hB : B ≤ w.heap.size) :
 Calls Tryz.prog 237 #[.pointer (some ⟨b, 0, none⟩)] w fun e w' => e = .returned (.string ⟨l.toArray⟩) ∧ Below B w w' :=
 Go.Proofs.Any.Builder_String_any sh_lays169 sh_Builder_Extra_169 B b l w h hB
theorem trimLeft_c (s : ByteArray) (w : World) :
 Calls Tryz.prog 260 #[.string s, .string ⟨#[48]⟩] w fun e w' => e = .returned (.string ⟨(Lib.trimLeftB s.data.toList 48).toArray⟩) ∧ w = w' := by
 refine (Go.Proofs.Any.strings_TrimLeft_one sh_lays161 s 48 (by decide) w).mono ?_
 rintro e w' ⟨rfl, rfl⟩
 exact ⟨rfl, rfl⟩
end
end Go.Proofs.YtbmaffijncapiaaGreatDoor
namespace Go.Proofs.YtbmaffijncapiaaGreatDoor.Num
def win (U : List Nat) (k i : Nat) : Nat := val ((U.drop k).take i)
theorem take_any (l : List Nat) (k : Nat) : val (l.take (k + 1)) = val (l.take k) + l.getD k 0 * BB ^ k := by
 by_cases h : k < l.length
 · exact val_take_succ h
 · rw [List.take_of_length_le (by omega), List.take_of_length_le (by omega)]; simp [show l.length ≤ k by omega]
theorem win_zero (U : List Nat) (k : Nat) : win U k 0 = 0 := by simp [win, val]
theorem win_succ {U : List Nat} {k i : Nat} (h : k + i < U.length) : win U k (i + 1) = win U k i + U.getD (k + i) 0 * BB ^ i := by
 unfold win
 rw [val_take_succ (by simp; omega)]
 simp [List.getElem?_drop]
theorem win_set {U : List Nat} {k i j x : Nat} (h : j < k ∨ k + i ≤ j) : win (U.set j x) k i = win U k i := by
 unfold win
 congr 1
 apply List.ext_getElem?
 intro m
 simp only [List.getElem?_take, List.getElem?_drop, List.getElem?_set]
 by_cases hm : m < i
 · rw [if_pos hm, if_neg (by omega)]; simp [hm]
 · simp [hm]
theorem win_lt {U : List Nat} (h : Limbs U) (k i : Nat) : win U k i < BB ^ i := by
 unfold win
 refine Nat.lt_of_lt_of_le (val_lt (fun x hx => h x (List.mem_of_mem_drop (List.mem_of_mem_take hx)))) (Nat.pow_le_pow_right BB_pos ?_)
 simp; omega
theorem win_set_succ {U : List Nat} {k i x : Nat} (h : k + i < U.length) : win (U.set (k + i) x) k (i + 1) = win U k i + x * BB ^ i := by
 rw [win_succ (by simpa using h), win_set (.inr (Nat.le_refl _))]
 simp [h]
theorem getD_set_far {l : List Nat} {i j x : Nat} (h : i ≠ j) : (l.set i x).getD j 0 = l.getD j 0 := getD_set_ne h
theorem less_arith {W V W0 c b P vi t ui m c1 r b1 B : Nat} (h : W + V * t = W0 + (c + b) * P) (hc : c + vi * t = c1 * B + m) (hr : r + m + b = ui + b1 * B) :
 W + r * P + (V + vi * P) * t = W0 + ui * P + (c1 + b1) * (B * P) := by
 have e1 : (V + vi * P) * t = V * t + vi * t * P := by rw [Nat.add_mul]; congr 1; ac_rfl
 have e2 : (c1 + b1) * (B * P) = c1 * B * P + b1 * B * P := by rw [Nat.add_mul]; congr 1 <;> ac_rfl
 have e3 : c * P + vi * t * P = c1 * B * P + m * P := by rw [← Nat.add_mul, hc, Nat.add_mul]
 have e4 : r * P + m * P + b * P = ui * P + b1 * B * P := by rw [← Nat.add_mul, ← Nat.add_mul, hr, Nat.add_mul]
 have e5 : (c + b) * P = c * P + b * P := Nat.add_mul _ _ _
 rw [e1, e2]
 omega
theorem back_arith {W V W1 c P vi ui c1 r B : Nat} (h : W + c * P = W1 + V) (hc : c + ui + vi = c1 * B + r) :
 W + r * P + c1 * (B * P) = W1 + ui * P + (V + vi * P) := by
 have e1 : c * P + ui * P + vi * P = c1 * (B * P) + r * P := by
  rw [← Nat.add_mul, ← Nat.add_mul, hc, Nat.add_mul]; congr 1; ac_rfl
 omega
theorem top_two {v : List Nat} {n : Nat} (h : v.length = n + 2) : val v = v.getD (n + 1) 0 * BB ^ (n + 1) + v.getD n 0 * BB ^ n + val (v.take n) := by
 have h1 := val_take_succ (l := v) (k := n + 1) (by omega)
 have h2 := val_take_succ (l := v) (k := n) (by omega)
 rw [List.take_of_length_le (by omega)] at h1
 omega
theorem win_top {U : List Nat} {k n : Nat} (h : k + (n + 3) ≤ U.length) : win U k (n + 3) = (U.getD (k + (n + 2)) 0 * BB + U.getD (k + (n + 1)) 0) * BB ^ (n + 1) + U.getD (k + n) 0 * BB ^ n + win U k n := by
 rw [win_succ (by omega), win_succ (by omega), win_succ (by omega)]
 have : BB ^ (n + 2) = BB * BB ^ (n + 1) := by rw [Nat.pow_succ BB (n + 1), Nat.mul_comm]
 rw [this, Nat.add_mul]
 have : U.getD (k + (n + 2)) 0 * (BB * BB ^ (n + 1)) = U.getD (k + (n + 2)) 0 * BB * BB ^ (n + 1) := by ac_rfl
 omega
section
variable {N D v1 v2 low high u2 lowN P1 P2 B g r : Nat}
theorem kn_first (hP : 0 < P1) (hD : v1 * P1 ≤ D) (hN : N < (high + 1) * P1) (hD0 : 0 < D) (hv : 0 < v1) : N / D ≤ high / v1 := by
 rw [Nat.le_div_iff_mul_le hv]
 have h1 : N / D * D ≤ N := Nat.div_mul_le_self N D
 have h2 : N / D * (v1 * P1) ≤ N / D * D := Nat.mul_le_mul (Nat.le_refl _) hD
 have h3 : N / D * v1 * P1 < (high + 1) * P1 := by rw [Nat.mul_assoc]; omega
 have := Nat.lt_of_mul_lt_mul_right h3
 omega
theorem kn_big (h : N < D * B) : N / D < B := Nat.div_lt_of_lt_mul h
theorem kn_step (hP : 0 < P2) (hD0 : 0 < D) (hD : D = v1 * (B * P2) + v2 * P2 + low) (hN : N = high * (B * P2) + u2 * P2 + lowN) (hlN : lowN < P2) (hg : g * v1 + r = high) (ht : r * B + u2 < g * v2) : N / D < g := by
 rw [Nat.div_lt_iff_lt_mul hD0, hN, hD]
 have e1 : g * (v1 * (B * P2) + v2 * P2 + low) = g * v1 * (B * P2) + g * v2 * P2 + g * low := by
  rw [Nat.mul_add, Nat.mul_add]; congr 1; congr 1 <;> ac_rfl
 have e2 : high * (B * P2) = g * v1 * (B * P2) + r * B * P2 := by rw [← hg, Nat.add_mul]; congr 1; ac_rfl
 have e3 : (r * B + u2 + 1) * P2 ≤ g * v2 * P2 := Nat.mul_le_mul ht (Nat.le_refl _)
 have e4 : (r * B + u2 + 1) * P2 = r * B * P2 + u2 * P2 + P2 := by rw [Nat.add_mul, Nat.add_mul]; omega
 omega
theorem kn_exit (hv1 : 0 < v1) (hB : 0 < B) (hgB : g < B) (hlow : low < P2) (hD : D = v1 * (B * P2) + v2 * P2 + low) (hN : N = high * (B * P2) + u2 * P2 + lowN) (hg : g * v1 + r = high) (ht : g * v2 ≤ r * B + u2) : g * D < N + D := by
 have e1 : g * D = g * v1 * (B * P2) + g * v2 * P2 + g * low := by
  rw [hD, Nat.mul_add, Nat.mul_add]; congr 1; congr 1 <;> ac_rfl
 have e2 : high * (B * P2) = g * v1 * (B * P2) + r * B * P2 := by rw [← hg, Nat.add_mul]; congr 1; ac_rfl
 have e3 : g * v2 * P2 ≤ (r * B + u2) * P2 := Nat.mul_le_mul ht (Nat.le_refl _)
 have e4 : (r * B + u2) * P2 = r * B * P2 + u2 * P2 := Nat.add_mul _ _ _
 have e5 : g * low < B * P2 := Nat.mul_lt_mul'' hgB hlow
 have e6 : B * P2 ≤ v1 * (B * P2) := Nat.le_mul_of_pos_left _ hv1
 omega
theorem kn_far (hlow : v2 * P2 + low < B * P2) (hD : D = v1 * (B * P2) + v2 * P2 + low) (hN : N = high * (B * P2) + u2 * P2 + lowN) (hg : g * v1 + r = high) (hr : g ≤ r) : g * D ≤ N := by
 have e1 : D ≤ (v1 + 1) * (B * P2) := by rw [Nat.add_mul]; omega
 have e2 : g * D ≤ g * ((v1 + 1) * (B * P2)) := Nat.mul_le_mul (Nat.le_refl _) e1
 have e3 : g * ((v1 + 1) * (B * P2)) = (g * v1 + g) * (B * P2) := by rw [← Nat.mul_assoc, Nat.mul_add, Nat.mul_one]
 have e4 : (g * v1 + g) * (B * P2) ≤ high * (B * P2) := Nat.mul_le_mul (by omega) (Nat.le_refl _)
 omega
end
theorem low_two {v2 low P2 B : Nat} (h2 : v2 < B) (hl : low < P2) : v2 * P2 + low < B * P2 := by
 have : (v2 + 1) * P2 ≤ B * P2 := Nat.mul_le_mul h2 (Nat.le_refl _)
 rw [Nat.add_mul] at this
 omega
theorem kn_done {N D g W : Nat} (hD : 0 < D) (hq : N / D ≤ g) (h : W + D * g = N) : N / D = g ∧ N % D = W := by
 have h1 : g ≤ N / D := by rw [Nat.le_div_iff_mul_le hD, Nat.mul_comm]; omega
 have h2 : N / D = g := by omega
 refine ⟨h2, ?_⟩
 have := Nat.div_add_mod N D
 rw [h2] at this
 omega
theorem kn_over {N D g W P : Nat} (hD : 0 < D) (hg : g * D < N + D) (hW : W < P) (h : W + D * g = N + P) : g = N / D + 1 ∧ W + D = N % D + P := by
 have e : D * g = g * D := Nat.mul_comm _ _
 have h1 : N < g * D := by omega
 have h2 : N / D < g := (Nat.div_lt_iff_lt_mul hD).2 h1
 have h3 : g ≤ N / D + 1 := by
  apply Nat.le_of_not_lt
  intro hlt
  have : (N / D + 2) * D ≤ g * D := Nat.mul_le_mul hlt (Nat.le_refl _)
  have h4 := Nat.lt_div_mul_add (a := N) hD
  rw [Nat.add_mul] at this
  omega
 have hq : g = N / D + 1 := by omega
 refine ⟨hq, ?_⟩
 have := Nat.div_add_mod N D
 rw [hq, Nat.mul_add, Nat.mul_one] at h
 omega
theorem kn_back {R W P c : Nat} (hR : R < P) (hW : W < P) (h : W + c * P = R + P) : W = R := by
 rcases Nat.lt_or_ge c 1 with h0 | h0
 · obtain rfl : c = 0 := by omega
   omega
 · rcases Nat.lt_or_ge 1 c with h1 | h1
   · have : 2 * P ≤ c * P := Nat.mul_le_mul h1 (Nat.le_refl _)
     omega
   · obtain rfl : c = 1 := by omega
     omega
theorem val_cut {U : List Nat} {k : Nat} (h : k ≤ U.length) : val U = val (U.take k) + BB ^ k * val (U.drop k) := by
 conv => lhs; rw [← List.take_append_drop k U]
 rw [val_append, List.length_take, Nat.min_eq_left h]
end Go.Proofs.YtbmaffijncapiaaGreatDoor.Num
namespace Go.Proofs.YtbmaffijncapiaaGreatDoor
open Num
open Go.ChangeShapes Go.WideShapes Go.ChangeAt Go.RowKit
def Rw32 (w : World) (g : Nat) (l : List Nat) : Prop := ∃ cur, w.heap[g]? = some (.cells cur 177 (0, 0)) ∧ cur.toList.take l.length = cel l
theorem Rw32.cell {w : World} {g : Nat} {l : List Nat} (h : Rw32 w g l) (k : Nat) (hk : k < l.length) : w.cell? ⟨g, k, none⟩ = some (.int .u32 (l.getD k 0 : Nat)) := by
 obtain ⟨cur, h1, h2⟩ := h
 have := cel_get l k hk
 rw [← h2, List.getElem?_take_of_lt hk] at this
 unfold World.cell?
 rw [show w.heap[(⟨g, k, none⟩ : Addr).block]? = _ from h1]
 simpa using this
theorem Rw32.frozen {w : World} {g : Nat} {l : List Nat} (h : Rw32 w g l) (k : Nat) : w.frozen? ⟨g, k, none⟩ = false := by
 obtain ⟨cur, h1, _⟩ := h
 unfold World.frozen?
 rw [show w.heap[(⟨g, k, none⟩ : Addr).block]? = _ from h1]
 simp
theorem Rw32.lt {w : World} {g : Nat} {l : List Nat} (h : Rw32 w g l) : g < w.heap.size := by obtain ⟨cur, h1, _⟩ := h; exact (Array.getElem?_eq_some_iff.1 h1).1
theorem Rw32.keep {w w' : World} {g : Nat} {l : List Nat} (h : Rw32 w g l) (hb : Below w.heap.size w w') : Rw32 w' g l := by
 have hl := h.lt
 obtain ⟨cur, h1, h2⟩ := h
 exact ⟨cur, (hb.block g hl).trans h1, h2⟩
theorem Rw32.set {w : World} {g : Nat} {l : List Nat} (h : Rw32 w g l) (k x : Nat) : Rw32 (w.setCell ⟨g, k, none⟩ (.int .u32 (x : Int))) g (l.set k x) := by
 obtain ⟨cur, h1, h2⟩ := h
 refine ⟨cur.setIfInBounds k (.int .u32 (x : Int)), ?_, ?_⟩
 · unfold World.setCell
   simp only [Array.getElem?_modify, if_true]
   rw [show w.heap[g]? = _ from h1]
   rfl
 · rw [Array.toList_setIfInBounds, List.length_set, List.take_set, h2]
   simp [cel, List.map_set]
theorem Rw32.out {X : Nat → Prop} {w w' : World} {g : Nat} {l : List Nat} (h : Rw32 w g l) (ho : Out X w w') (hx : ¬ X g) : Rw32 w' g l := by
 have hl := h.lt
 obtain ⟨cur, h1, h2⟩ := h
 exact ⟨cur, (ho.block g hl hx).trans h1, h2⟩
theorem Rw32.u32 {w : World} {g : Nat} {l : List Nat} (h : Rw32 w g l) (hl : Limbs l) {c : Nat} (hc : l.length ≤ c) (hm : c ≤ maxLen) : U32 w (some ⟨g, 0, none⟩) c l :=
 ⟨hc, hm, hl, .inr ⟨g, 0, rfl, fun k hk => by simpa using h.cell k hk, by obtain ⟨cur, h1, _⟩ := h; unfold typOf; rw [h1]⟩⟩
namespace Num
theorem less_step {O U V : List Nat} {k i c b t x : Nat} (hO : k + i < O.length) (hU : k + i < U.length) (hx : x = U.getD (k + i) 0)
 (h : win O k i + val (V.take i) * t = win U k i + (c + b) * BB ^ i) :
 ∀ cc c1 m r b1, cc = c + V.getD i 0 * t → cc = c1 * BB + m → r + m + b = x + b1 * BB → win (O.set (k + i) r) k (i + 1) + val (V.take (i + 1)) * t = win U k (i + 1) + (c1 + b1) * BB ^ (i + 1) := by
 intro cc c1 m r b1 h1 h2 h3
 rw [win_set_succ hO, win_succ hU, take_any, ← hx, Nat.pow_succ, Nat.mul_comm (BB ^ i) BB]
 exact less_arith h (h1 ▸ h2) h3
end Num
theorem less_c (g k n cu bv ov cv t : Nat) (U V : List Nat) (w : World) (hU : Rw32 w g U) (hUL : Limbs U) (hk : k + (n + 1) ≤ U.length) (hcu : n + 1 ≤ cu) (hkm : U.length ≤ 1099511627776) (hV : At32 w bv ov V) (hVL : Limbs V) (hVn : V.length = n) (hcv : n ≤ cv) (hg : bv ≠ g) (ht : t < BB) :
 Calls Tryz.prog 277 #[.slice (some ⟨g, k, none⟩) (n + 1) cu, .slice (some ⟨bv, ov, none⟩) n cv, .int .u64 (t : Int)] w fun e w' => (∃ (O : List Nat) (z : Nat), e = .returned (.bool (decide (0 < z))) ∧ z ≤ 1 ∧ Rw32 w' g O ∧ O.length = U.length ∧ Limbs O ∧ (∀ j, j < k ∨ k + (n + 1) ≤ j → O.getD j 0 = U.getD j 0) ∧ win O k (n + 1) + val V * t = win U k (n + 1) + z * BB ^ (n + 1)) ∧ Out (· = g) w w' := by
 go_enter Tryz.func277, Tryz.ntmps277
 go_wp2
 go_loopw [7, 8, 13] (fun cx bx x wr => ∃ (i c b : Nat) (O : List Nat), i ≤ n + 1 ∧ x = .int .i64 i ∧ cx = .int .u64 c ∧ bx = .int .u64 b ∧ c < BB ∧ b ≤ 1 ∧ Rw32 wr g O ∧ Hid (O.length = U.length) ∧ Limbs O ∧ Hid (∀ j, j < k ∨ k + i ≤ j → O.getD j 0 = U.getD j 0) ∧ Hid (win O k i + val (V.take i) * t = win U k i + (c + b) * BB ^ i) ∧ Hid (i = n + 1 → c = 0) ∧ Out (· = g) w wr) (fun _ _ x _ => n + 1 - (intOf x).toNat)
 case atStart => exact ⟨0, 0, 0, U, by omega, rfl, rfl, rfl, BB_pos, by omega, hU, hZ rfl, hUL, hZ (fun _ _ => rfl), hZ (by simp [win_zero, val]), hZ (fun h => rfl), Out.refl _ _⟩
 case round =>
  obtain ⟨i, c, b, O, hi, rfl, rfl, rfl, hcB, hb1, hO, hOl, hOL, hO0, hW, hCz, hOut⟩ := hrel
  have hol := hOl.out
  by_cases hlt : i < n + 1
  · have hltz : (i : Int) < (n : Int) + 1 := by omega
    have q0 := hO.cell (k + i) (by omega)
    have qf := hO.frozen (k + i)
    have hx := limb_get hOL (k + i)
    have hxe := hO0.out (k + i) (.inr (Nat.le_refl _))
    have HS := hZ (less_step (O := O) (U := U) (V := V) (k := k) (i := i) (c := c) (b := b) (t := t) (x := O.getD (k + i) 0) (by omega) (by omega) hxe hW.out)
    clear hxe
    by_cases hiv : i < n
    · have d0 := okeep hOut (hV i (by omega)) hg
      have hy := limb_get hVL i
      have hcc : c + V.getD i 0 * t < BB * BB := by
       have h1 : V.getD i 0 * t ≤ (BB - 1) * (BB - 1) := Nat.mul_le_mul (by omega) (by omega)
       have h2 : (BB - 1) * (BB - 1) + (BB - 1) + (BB - 1) + 1 = BB * BB := by unfold BB; rfl
       omega
      generalize hye : V.getD i 0 = y at *
      generalize O.getD (k + i) 0 = x at *
      have e1 := w64 (BB_sq x hx)
      have e2 := w64 (BB_sq y hy)
      have e3 : IntKind.u64.wrap ((y : Int) * (t : Int)) = ((y * t : Nat) : Int) := by rw [← Int.natCast_mul]; exact w64 (by omega)
      have e3' : IntKind.u64.wrap ((c : Int) + ((y * t : Nat) : Int)) = ((c + y * t : Nat) : Int) := by rw [← Int.natCast_add]; exact w64 hcc
      obtain ⟨cc, hce⟩ : ∃ cc, cc = c + y * t := ⟨_, rfl⟩
      rw [← hce] at hcc e3'
      have HE := hZ hce
      clear hce hye
      generalize y * t = yt at e3 e3' 
      obtain ⟨m, hm⟩ : ∃ m, m = cc % BB := ⟨_, rfl⟩
      obtain ⟨c1, h1⟩ : ∃ c1, c1 = cc / BB := ⟨_, rfl⟩
      have HZ := hZ (show i + 1 = n + 1 → c1 = 0 from fun h => by omega)
      have hmB : m < BB := by rw [hm]; exact Nat.mod_lt _ BB_pos
      have h1B : c1 < BB := by rw [h1]; exact Nat.div_lt_of_lt_mul hcc
      have eand : bits .and .u64 (cc : Int) 4294967295 = (m : Int) := by
       rw [show (4294967295 : Int) = ((4294967295 : Nat) : Int) from rfl, bits_and_u64_nat cc 4294967295 (by unfold BB at hcc; omega) (by omega), show (4294967295 : Nat) = 2 ^ 32 - 1 from rfl, Nat.and_two_pow_sub_one_eq_mod, hm]; rfl
      have eshr : (cc : Int) / 4294967296 = (c1 : Int) := by unfold BB at h1; omega
      have HC := hZ (show cc = c1 * BB + m by rw [h1, hm, Nat.mul_comm]; exact (Nat.div_add_mod cc BB).symm)
      clear hm h1
      by_cases hlow : m + b ≤ x
      · have e4 : IntKind.u64.wrap ((x : Int) - (m : Int)) = ((x - m : Nat) : Int) := by rw [show (x : Int) - (m : Int) = ((x - m : Nat) : Int) by omega]; exact w64 (by unfold BB at *; omega)
        have e5 : IntKind.u64.wrap (((x - m : Nat) : Int) - (b : Int)) = ((x - m - b : Nat) : Int) := by rw [show ((x - m : Nat) : Int) - (b : Int) = ((x - m - b : Nat) : Int) by omega]; exact w64 (by unfold BB at *; omega)
        have hr1 : x - m - b < BB := by omega
        have HR := hZ (HS.out cc c1 m (x - m - b) 0 HE.out HC.out (by omega))
        generalize x - m - b = r at *
        generalize x - m = xm at *
        have e6 : (r : Int) / 4294967296 = 0 := by unfold BB at hr1; omega
        have e7 : (r : Int) % 4294967296 = (r : Int) := by unfold BB at hr1; omega
        have b0 : bits .and .u64 0 1 = 0 := by rfl
        have qb := hO.set (k + i) r
        have ql := limbs_set hOL (k := k + i) hr1
        have bs := hOut.set (p := ⟨g, k + i, none⟩) (fun _ => rfl) (.int .u32 (r : Int))
        have hrr := hr1
        clear hol HE hcc
        go_wp2
        refine ⟨⟨i + 1, c1, 0, O.set (k + i) r, by omega, by go_num, rfl, by first | rfl | simp, by omega, by omega, qb, hZ (by simpa using hOl.out), ql, hZ ?_, HR, HZ, bs⟩, by simp [intOf] <;> omega⟩
        intro j hj
        rw [getD_set_far (by omega)]
        exact hO0.out j (by omega)
      · have hD : 18446744073709551616 - (m + b - x) < 18446744073709551616 := by omega
        have hr1 : BB + x - m - b < BB := by omega
        have HR := hZ (HS.out cc c1 m (BB + x - m - b) 1 HE.out HC.out (by omega))
        have e45 : ∃ X : Nat, IntKind.u64.wrap ((x : Int) - (m : Int)) = (X : Int) ∧ IntKind.u64.wrap ((X : Int) - (b : Int)) = ((18446744073709551616 - (m + b - x) : Nat) : Int) := by
         by_cases hxm : m ≤ x
         · refine ⟨x - m, ?_, ?_⟩
           · rw [show (x : Int) - (m : Int) = ((x - m : Nat) : Int) by omega]; exact w64 (by unfold BB at *; omega)
           · simp only [IntKind.wrap, IntKind.bits, IntKind.signed]
             simp
             unfold BB at *
             omega
         · refine ⟨18446744073709551616 - (m - x), ?_, ?_⟩
           · simp only [IntKind.wrap, IntKind.bits, IntKind.signed]
             simp
             unfold BB at *
             omega
           · simp only [IntKind.wrap, IntKind.bits, IntKind.signed]
             simp
             unfold BB at *
             omega
        obtain ⟨xm, e4, e5⟩ := e45
        have e7 : ((18446744073709551616 - (m + b - x) : Nat) : Int) % 4294967296 = ((BB + x - m - b : Nat) : Int) := by unfold BB at *; omega
        have e6 : ((18446744073709551616 - (m + b - x) : Nat) : Int) / 4294967296 = 4294967295 := by unfold BB at *; omega
        generalize 18446744073709551616 - (m + b - x) = D at e5 e6 e7 hD
        generalize BB + x - m - b = r at *
        have b0 : bits .and .u64 4294967295 1 = 1 := by rfl
        have qb := hO.set (k + i) r
        have ql := limbs_set hOL (k := k + i) hr1
        have bs := hOut.set (p := ⟨g, k + i, none⟩) (fun _ => rfl) (.int .u32 (r : Int))
        clear hol HE hcc
        go_wp2
        refine ⟨⟨i + 1, c1, 1, O.set (k + i) r, by omega, by go_num, rfl, by first | rfl | simp, by omega, by omega, qb, hZ (by simpa using hOl.out), ql, hZ ?_, HR, HZ, bs⟩, by simp [intOf] <;> omega⟩
        intro j hj
        rw [getD_set_far (by omega)]
        exact hO0.out j (by omega)
    · obtain rfl : i = n := by omega
      have hy0 : V.getD i 0 = 0 := by simp [hVn]
      rw [hy0] at HS
      have hcc : c < BB * BB := BB_sq c hcB
      generalize O.getD (k + i) 0 = x at *
      have e1 := w64 (BB_sq x hx)
      obtain ⟨cc, hce⟩ : ∃ cc, cc = c := ⟨_, rfl⟩
      have HE := hZ (show cc = c + 0 * t by omega)
      subst hce
      clear hy0
      obtain ⟨m, hm⟩ : ∃ m, m = cc % BB := ⟨_, rfl⟩
      obtain ⟨c1, h1⟩ : ∃ c1, c1 = cc / BB := ⟨_, rfl⟩
      have HZ := hZ (show i + 1 = i + 1 → c1 = 0 from fun _ => by rw [h1]; exact Nat.div_eq_of_lt hcB)
      have hmB : m < BB := by rw [hm]; exact Nat.mod_lt _ BB_pos
      have h1B : c1 < BB := by rw [h1]; exact Nat.div_lt_of_lt_mul hcc
      have eand : bits .and .u64 (cc : Int) 4294967295 = (m : Int) := by
       rw [show (4294967295 : Int) = ((4294967295 : Nat) : Int) from rfl, bits_and_u64_nat cc 4294967295 (by unfold BB at hcc; omega) (by omega), show (4294967295 : Nat) = 2 ^ 32 - 1 from rfl, Nat.and_two_pow_sub_one_eq_mod, hm]; rfl
      have eshr : (cc : Int) / 4294967296 = (c1 : Int) := by unfold BB at h1; omega
      have HC := hZ (show cc = c1 * BB + m by rw [h1, hm, Nat.mul_comm]; exact (Nat.div_add_mod cc BB).symm)
      clear hm h1
      by_cases hlow : m + b ≤ x
      · have e4 : IntKind.u64.wrap ((x : Int) - (m : Int)) = ((x - m : Nat) : Int) := by rw [show (x : Int) - (m : Int) = ((x - m : Nat) : Int) by omega]; exact w64 (by unfold BB at *; omega)
        have e5 : IntKind.u64.wrap (((x - m : Nat) : Int) - (b : Int)) = ((x - m - b : Nat) : Int) := by rw [show ((x - m : Nat) : Int) - (b : Int) = ((x - m - b : Nat) : Int) by omega]; exact w64 (by unfold BB at *; omega)
        have hr1 : x - m - b < BB := by omega
        have HR := hZ (HS.out cc c1 m (x - m - b) 0 HE.out HC.out (by omega))
        generalize x - m - b = r at *
        generalize x - m = xm at *
        have e6 : (r : Int) / 4294967296 = 0 := by unfold BB at hr1; omega
        have e7 : (r : Int) % 4294967296 = (r : Int) := by unfold BB at hr1; omega
        have b0 : bits .and .u64 0 1 = 0 := by rfl
        have qb := hO.set (k + i) r
        have ql := limbs_set hOL (k := k + i) hr1
        have bs := hOut.set (p := ⟨g, k + i, none⟩) (fun _ => rfl) (.int .u32 (r : Int))
        have hrr := hr1
        clear hol HE hcc
        go_wp2
        refine ⟨⟨i + 1, c1, 0, O.set (k + i) r, by omega, by go_num, rfl, by first | rfl | simp, by omega, by omega, qb, hZ (by simpa using hOl.out), ql, hZ ?_, HR, HZ, bs⟩, by simp [intOf] <;> omega⟩
        intro j hj
        rw [getD_set_far (by omega)]
        exact hO0.out j (by omega)
      · have hD : 18446744073709551616 - (m + b - x) < 18446744073709551616 := by omega
        have hr1 : BB + x - m - b < BB := by omega
        have HR := hZ (HS.out cc c1 m (BB + x - m - b) 1 HE.out HC.out (by omega))
        have e45 : ∃ X : Nat, IntKind.u64.wrap ((x : Int) - (m : Int)) = (X : Int) ∧ IntKind.u64.wrap ((X : Int) - (b : Int)) = ((18446744073709551616 - (m + b - x) : Nat) : Int) := by
         by_cases hxm : m ≤ x
         · refine ⟨x - m, ?_, ?_⟩
           · rw [show (x : Int) - (m : Int) = ((x - m : Nat) : Int) by omega]; exact w64 (by unfold BB at *; omega)
           · simp only [IntKind.wrap, IntKind.bits, IntKind.signed]
             simp
             unfold BB at *
             omega
         · refine ⟨18446744073709551616 - (m - x), ?_, ?_⟩
           · simp only [IntKind.wrap, IntKind.bits, IntKind.signed]
             simp
             unfold BB at *
             omega
           · simp only [IntKind.wrap, IntKind.bits, IntKind.signed]
             simp
             unfold BB at *
             omega
        obtain ⟨xm, e4, e5⟩ := e45
        have e7 : ((18446744073709551616 - (m + b - x) : Nat) : Int) % 4294967296 = ((BB + x - m - b : Nat) : Int) := by unfold BB at *; omega
        have e6 : ((18446744073709551616 - (m + b - x) : Nat) : Int) / 4294967296 = 4294967295 := by unfold BB at *; omega
        generalize 18446744073709551616 - (m + b - x) = D at e5 e6 e7 hD
        generalize BB + x - m - b = r at *
        have b0 : bits .and .u64 4294967295 1 = 1 := by rfl
        have qb := hO.set (k + i) r
        have ql := limbs_set hOL (k := k + i) hr1
        have bs := hOut.set (p := ⟨g, k + i, none⟩) (fun _ => rfl) (.int .u32 (r : Int))
        clear hol HE hcc
        go_wp2
        refine ⟨⟨i + 1, c1, 1, O.set (k + i) r, by omega, by go_num, rfl, by first | rfl | simp, by omega, by omega, qb, hZ (by simpa using hOl.out), ql, hZ ?_, HR, HZ, bs⟩, by simp [intOf] <;> omega⟩
        intro j hj
        rw [getD_set_far (by omega)]
        exact hO0.out j (by omega)
  · obtain rfl : i = n + 1 := by omega
    have HW := hZ (show c = 0 ∧ win O k (n + 1) + val V * t = win U k (n + 1) + b * BB ^ (n + 1) by
     have h := hW.out
     rw [List.take_of_length_le (by omega)] at h
     have h0 : c = 0 := hCz.out rfl
     subst h0
     exact ⟨rfl, by simpa using h⟩)
    clear hol
    go_wp2
    go_ret
    exact ⟨⟨O, b, by simp, hb1, hO, hOl.out, hOL, hO0.out, HW.out.2⟩, hOut⟩
end Go.Proofs.YtbmaffijncapiaaGreatDoor
namespace Go.Proofs.YtbmaffijncapiaaGreatDoor.NumR
open Num (Nrm bitN bitN_half trimL)
theorem take_any (l : List Nat) (k : Nat) : val (l.take (k + 1)) = val (l.take k) + l.getD k 0 * BB ^ k := by
 by_cases h : k < l.length
 · exact val_take_succ h
 · rw [List.take_of_length_le (by omega), List.take_of_length_le (by omega)]; simp [show l.length ≤ k by omega]
theorem val_snoc (O : List Nat) (x : Nat) : val (O ++ [x]) = val O + x * BB ^ O.length := by rw [val_append]; simp [val, Nat.mul_comm]
theorem plus_step {O A B : List Nat} {i c t : Nat} (hO : O.length = i) (ht : t = c + A.getD i 0 + B.getD i 0) (h : val O + c * BB ^ i = val (A.take i) + val (B.take i)) :
 val (O ++ [t % BB]) + t / BB * BB ^ (i + 1) = val (A.take (i + 1)) + val (B.take (i + 1)) := by
 rw [val_snoc, take_any, take_any, hO]
 have e : t * BB ^ i = t / BB * BB ^ (i + 1) + t % BB * BB ^ i := by
  conv => lhs; rw [← Nat.div_add_mod t BB, Nat.add_mul]
  rw [Nat.pow_succ]; congr 1; ac_rfl
 have e2 : t * BB ^ i = c * BB ^ i + A.getD i 0 * BB ^ i + B.getD i 0 * BB ^ i := by rw [ht]; simp only [Nat.add_mul]
 omega
theorem minus_step {O A B : List Nat} {i c r c' : Nat} (hO : O.length = i) (hr : r + (c + B.getD i 0) = A.getD i 0 + c' * BB) (h : val O + val (B.take i) = val (A.take i) + c * BB ^ i) :
 val (O ++ [r]) + val (B.take (i + 1)) = val (A.take (i + 1)) + c' * BB ^ (i + 1) := by
 rw [val_snoc, take_any, take_any, hO]
 have e := congrArg (· * BB ^ i) hr
 simp only [Nat.add_mul] at e
 have e2 : c' * BB * BB ^ i = c' * BB ^ (i + 1) := by rw [Nat.pow_succ]; ac_rfl
 omega
theorem minus_end {A B : List Nat} {V c : Nat} (hA : Limbs A) (hle : val B ≤ val A) (hlen : B.length ≤ A.length) (h : V + val (B.take A.length) = val (A.take A.length) + c * BB ^ A.length) (hV : V < BB ^ A.length) : V + val B = val A := by
 rw [List.take_of_length_le hlen, List.take_length] at h
 rcases Nat.eq_zero_or_pos c with rfl | hc
 · omega
 · have : 1 * BB ^ A.length ≤ c * BB ^ A.length := Nat.mul_le_mul hc (Nat.le_refl _)
   omega
theorem BB_pow (n : Nat) : BB ^ n = 2 ^ (16 * n) := by rw [Nat.pow_mul]; rfl
theorem bitN_snoc {l : List Nat} {x : Nat} (hl : Limbs l) (hx : x ≠ 0) : bitN (val (l ++ [x])) = 16 * l.length + bitN x := by
 have h1 := val_lt hl
 rw [val_append]
 simp only [val, Nat.mul_zero, Nat.add_zero]
 rw [BB_pow] at *
 have hp : 0 < 2 ^ (16 * l.length) := Nat.pow_pos (by omega)
 have h2 : 2 ^ (16 * l.length) * 1 ≤ 2 ^ (16 * l.length) * x := Nat.mul_le_mul_left _ (by omega)
 unfold bitN
 rw [if_neg (by omega), if_neg hx]
 have e : (val l + 2 ^ (16 * l.length) * x).log2 = 16 * l.length + x.log2 := by
  rw [Nat.log2_eq_iff (by omega)]
  have k1 := Nat.log2_self_le hx
  have k2 := @Nat.lt_log2_self x
  constructor
  · rw [Nat.pow_add]
    have := Nat.mul_le_mul_left (2 ^ (16 * l.length)) k1
    omega
  · rw [Nat.add_assoc, Nat.pow_add]
    have := Nat.mul_le_mul_left (2 ^ (16 * l.length)) (show x + 1 ≤ 2 ^ (x.log2 + 1) from k2)
    rw [Nat.mul_add] at this
    omega
 omega
theorem bitN_nrm {l : List Nat} {k : Nat} (hl : Limbs l) (hn : Nrm l) (hk : l.length = k + 1) : bitN (val l) = 16 * k + bitN (l.getD k 0) := by
 obtain ⟨m, x, rfl⟩ : ∃ m x, l = m ++ [x] := ⟨l.dropLast, l.getLast (by intro e; subst e; simp at hk), (List.dropLast_concat_getLast _).symm⟩
 simp at hk
 have hx := hn (by simp)
 simp at hx
 rw [bitN_snoc (fun y hy => hl y (by simp [hy])) hx, hk]
 congr 2
 simp [← hk]
theorem lt_bitN (v : Nat) : v < 2 ^ bitN v := by
 unfold bitN
 split
 · subst_vars; simp
 · exact Nat.lt_log2_self
theorem bitN_le {v n : Nat} (h : v < 2 ^ n) : bitN v ≤ n := by
 unfold bitN
 split
 · omega
 · rename_i h0
   have := Nat.log2_self_le h0
   have h2 : 2 ^ v.log2 < 2 ^ n := Nat.lt_of_le_of_lt this h
   have := (Nat.pow_lt_pow_iff_right (a := 2) (by omega)).1 h2
   omega
theorem getD_val {l : List Nat} (hl : Limbs l) (j : Nat) : l.getD j 0 = val l / BB ^ j % BB := by
 induction l generalizing j with
 | nil => simp [val]
 | cons x l ih =>
  have hx : x < BB := hl x (by simp)
  have hl' : Limbs l := fun y hy => hl y (by simp [hy])
  cases j with
  | zero => simp [val]; exact (Nat.mod_eq_of_lt hx).symm
  | succ j =>
   rw [List.getD_cons_succ, ih hl' j, val, Nat.pow_succ, Nat.mul_comm (BB ^ j), ← Nat.div_div_eq_div_mul]
   rw [Nat.add_mul_div_left _ _ BB_pos, Nat.div_eq_of_lt hx, Nat.zero_add]
theorem bit_val {l : List Nat} (hl : Limbs l) (k : Nat) : l.getD (k / 16) 0 / 2 ^ (k % 16) % 2 = val l / 2 ^ k % 2 := by
 rw [getD_val hl, BB_pow]
 have e1 : 2 ^ k = 2 ^ (16 * (k / 16)) * 2 ^ (k % 16) := by rw [← Nat.pow_add]; congr 1; omega
 rw [e1, ← Nat.div_div_eq_div_mul]
 generalize val l / 2 ^ (16 * (k / 16)) = x
 have hk : k % 16 < 16 := Nat.mod_lt _ (by omega)
 generalize k % 16 = m at *
 have e2 : BB = 2 ^ m * (2 * 2 ^ (15 - m)) := by
  show (2 : Nat) ^ 16 = _
  rw [← Nat.mul_assoc, ← Nat.pow_succ, ← Nat.pow_add]; congr 1; omega
 rw [e2, Nat.mod_mul_right_div_self, Nat.mod_mul_right_mod]
theorem twice_step {R R0 : List Nat} {i c t V : Nat} (hi : i < R.length) (he : R.getD i 0 = R0.getD i 0) (ht : t = c + 2 * R0.getD i 0)
 (h : val R + c * BB ^ i = V + val (R0.take i)) : val (R.set i (t % BB)) + t / BB * BB ^ (i + 1) = V + val (R0.take (i + 1)) := by
 have a1 := val_set (l := R) (k := i) (t % BB) hi
 rw [take_any, ← he]
 have e : t * BB ^ i = t / BB * BB ^ (i + 1) + t % BB * BB ^ i := by
  conv => lhs; rw [← Nat.div_add_mod t BB, Nat.add_mul]
  rw [Nat.pow_succ]; congr 1; ac_rfl
 have e2 : t * BB ^ i = c * BB ^ i + 2 * (R.getD i 0 * BB ^ i) := by rw [ht, he]; simp only [Nat.add_mul]; congr 1; ac_rfl
 omega
theorem nrm_of_val {l : List Nat} (hl : Limbs l) (h : l ≠ [] → BB ^ (l.length - 1) ≤ val l) : Nrm l := by
 intro hn e
 obtain ⟨m, x, rfl⟩ : ∃ m x, l = m ++ [x] := ⟨l.dropLast, l.getLast hn, (List.dropLast_concat_getLast _).symm⟩
 simp at e
 subst e
 have h1 := h hn
 have h2 := val_lt (l := m) (fun y hy => hl y (by simp [hy]))
 rw [val_snoc] at h1
 simp at h1
 omega
theorem or_val {l : List Nat} {k Q : Nat} (hl : Limbs l) (hv : val l = Q * 2 ^ (k + 1)) : l.getD (k / 16) 0 ||| 2 ^ (k % 16) = l.getD (k / 16) 0 + 2 ^ (k % 16) ∧ l.getD (k / 16) 0 + 2 ^ (k % 16) < BB := by
 have hk : k % 16 < 16 := Nat.mod_lt _ (by omega)
 have e1 : l.getD (k / 16) 0 = 2 ^ (k % 16 + 1) * (Q % 2 ^ (15 - k % 16)) := by
  rw [getD_val hl, hv, BB_pow]
  have e1 : 2 ^ (k + 1) = 2 ^ (16 * (k / 16)) * 2 ^ (k % 16 + 1) := by rw [← Nat.pow_add]; congr 1; omega
  rw [e1, show Q * (2 ^ (16 * (k / 16)) * 2 ^ (k % 16 + 1)) = 2 ^ (16 * (k / 16)) * (2 ^ (k % 16 + 1) * Q) by ac_rfl, Nat.mul_div_cancel_left _ (Nat.pow_pos (by omega))]
  have e2 : BB = 2 ^ (k % 16 + 1) * 2 ^ (15 - k % 16) := by
   show (2 : Nat) ^ 16 = _
   rw [← Nat.pow_add]; congr 1; omega
  rw [e2, Nat.mul_mod_mul_left]
 have e2 : BB = 2 ^ (k % 16 + 1) * 2 ^ (15 - k % 16) := by
  show (2 : Nat) ^ 16 = _
  rw [← Nat.pow_add]; congr 1; omega
 have hm : Q % 2 ^ (15 - k % 16) < 2 ^ (15 - k % 16) := Nat.mod_lt _ (Nat.pow_pos (by omega))
 have hlt : 2 ^ (k % 16) < 2 ^ (k % 16 + 1) := Nat.pow_lt_pow_right (by omega) (by omega)
 generalize Q % 2 ^ (15 - k % 16) = z at *
 rw [e1]
 refine ⟨(Nat.two_pow_add_eq_or_of_lt hlt z).symm, ?_⟩
 rw [e2]
 have := Nat.mul_le_mul_left (2 ^ (k % 16 + 1)) hm
 rw [Nat.mul_succ] at this
 omega
theorem set_bit {l : List Nat} {k : Nat} (hk : k / 16 < l.length) : val (l.set (k / 16) (l.getD (k / 16) 0 + 2 ^ (k % 16))) = val l + 2 ^ k := by
 have a1 := val_set (l := l) (k := k / 16) (l.getD (k / 16) 0 + 2 ^ (k % 16)) hk
 have e1 : 2 ^ k = 2 ^ (k % 16) * BB ^ (k / 16) := by rw [BB_pow, ← Nat.pow_add]; congr 1; omega
 rw [Nat.add_mul, ← e1] at a1
 omega
theorem half_step (A k : Nat) : A / 2 ^ k = 2 * (A / 2 ^ (k + 1)) + A / 2 ^ k % 2 := by
 rw [Nat.pow_succ, ← Nat.div_div_eq_div_mul]
 have := Nat.div_add_mod (A / 2 ^ k) 2
 omega
theorem bit_take {A k Q R D V b : Nat} (h : A / 2 ^ (k + 1) = Q * D + R) (hb : b = A / 2 ^ k % 2) (hv : V = Q * 2 ^ (k + 1)) :
 A / 2 ^ k = 2 * Q * D + (b + 2 * R) ∧ V = 2 * Q * 2 ^ k := by
 have h1 := half_step A k
 rw [h, ← hb] at h1
 refine ⟨?_, by rw [hv, Nat.pow_succ]; ac_rfl⟩
 rw [h1, Nat.mul_add]
 have : 2 * (Q * D) = 2 * Q * D := by ac_rfl
 omega
theorem bit_more {X Q D R V k : Nat} (h : X = 2 * Q * D + R) (hD : D ≤ R) (hv : V = 2 * Q * 2 ^ k) : X = (2 * Q + 1) * D + (R - D) ∧ V + 2 ^ k = (2 * Q + 1) * 2 ^ k := by
 rw [Nat.add_mul, Nat.add_mul]
 omega
theorem short_step {O A : List Nat} {j c rest : Nat} (hc : 0 < c) (hO : j < O.length) (h0 : O.getD j 0 = 0) (hA : j < A.length)
 (h : val O * c + rest * BB ^ (j + 1) + val (A.take (j + 1)) = val A) : val (O.set j ((rest * BB + A.getD j 0) / c)) * c + (rest * BB + A.getD j 0) % c * BB ^ j + val (A.take j) = val A := by
 have a1 := val_set (l := O) (k := j) ((rest * BB + A.getD j 0) / c) hO
 rw [h0] at a1
 rw [take_any] at h
 have e := Nat.div_add_mod (rest * BB + A.getD j 0) c
 generalize (rest * BB + A.getD j 0) / c = q at *
 generalize (rest * BB + A.getD j 0) % c = m at *
 have e1 : val (O.set j q) = val O + q * BB ^ j := by omega
 rw [e1, Nat.add_mul]
 have e2 : (c * q + m) * BB ^ j = rest * BB ^ (j + 1) + A.getD j 0 * BB ^ j := by
  rw [e, Nat.add_mul, Nat.pow_succ]; congr 1; ac_rfl
 rw [Nat.add_mul] at e2
 have e3 : q * BB ^ j * c = c * q * BB ^ j := by ac_rfl
 omega
theorem short_lt {rest x c : Nat} (hr : rest < c) (hx : x < BB) : (rest * BB + x) / c < BB := by
 rw [Nat.div_lt_iff_lt_mul (by omega)]
 have : (rest + 1) * BB ≤ c * BB := Nat.mul_le_mul hr (Nat.le_refl _)
 rw [Nat.add_mul] at this
 rw [Nat.mul_comm BB c]
 omega
end Go.Proofs.YtbmaffijncapiaaGreatDoor.NumR
namespace Go.Proofs.YtbmaffijncapiaaGreatDoor
open Go.ChangeShapes Go.WideShapes Go.ChangeAt Go.RowKit

theorem calls_of_wp_marks {P : Program} {f : FuncId} {fn : Func} {c : Code} {args : Array Value} {w : World} {R : Ending → World → Prop}
 (hf : P.funcs[f]? = some fn) (hb : fn.body = some c)
 (h : c.wp P (bodyPostM Fence.wide 9 P fn R) { tmps := args ++ Array.replicate (fn.ntmps - args.size) undef, defers := [] } w) : Calls P f args w R :=
 callsIn_wide.1 (callsIn_of_wp_marks (F := Fence.wide) (n := 9) hf hb trivial (wpIn_wide.2 h) rfl)
theorem roundIn_wide {n m : Nat} {P : Program} {l : Nat} {f : FuncId} {tmps : Array Value} {assign body : Code} {w : World} {R : Ending → World → Prop} (h : RoundIn Fence.wide n P l f tmps assign body w R) : RoundIn Fence.wide m P l f tmps assign body w R :=
 ⟨h.1, fun c cs _ => h.2 c cs (room_wide _)⟩
theorem yieldAt_wide {n m : Nat} {P : Program} {l : Nat} {args : Array Value} {W : World} {R : Ending → World → Prop} (h : YieldAt Fence.wide n P l args W R) : YieldAt Fence.wide m P l args W R := by
 obtain ⟨fn, tmps, assign, body, hy, hR⟩ := h
 exact ⟨fn, tmps, assign, body, hy, roundIn_wide hR⟩

structure Soft (B : Nat) (W W' : World) : Prop where
 below : Below B W W'
 cells : ∀ (k : Nat) (o : Obj), W.heap[k]? = some o → o.isCells = true → W'.heap[k]? = some o
theorem soft_of_grown {B : Nat} {W W' : World} {row : Option Nat} (hB : B ≤ W.heap.size) (hg : W.grownBy W' row) (hr : ∀ r, row = some r → B ≤ r ∧ ∃ o : Obj, W.heap[r]? = some o ∧ o.isCells = false) : Soft B W W' := by
 refine ⟨(Below.refl B W).grown hg hB (fun k e => (hr k e).1), fun k o hk ho => ?_⟩
 refine (hg.block k (Array.getElem?_eq_some_iff.1 hk).1 (fun e => ?_)).trans hk
 obtain ⟨_, o', ho', hc⟩ := hr k e.symm
 rw [hk] at ho'; cases ho'; rw [ho] at hc; cases hc
theorem Soft.block {B : Nat} {W W' : World} (h : Soft B W W') {p : Addr} {v : Value} (hv : W.cell? p = some v) : W'.heap[p.block]? = W.heap[p.block]? := by
 unfold World.cell? at hv
 split at hv
 · rename_i c t f e
   rw [e]; exact h.cells _ _ e rfl
 · cases hv
theorem Soft.cell {B : Nat} {W W' : World} (h : Soft B W W') {p : Addr} {v : Value} (hv : W.cell? p = some v) : W'.cell? p = some v :=
 (World.cell?_of_block (h.block hv)).trans hv
theorem Soft.frozen {B : Nat} {W W' : World} (h : Soft B W W') {p : Addr} {v : Value} (hv : W.cell? p = some v) (hf : W.frozen? p = false) : W'.frozen? p = false :=
 (World.frozen?_of_block (h.block hv)).trans hf

/-! what a round's body keeps -/
theorem wp_rangeK {P : Program} {α : Type} {g : Operand} {ps : Array Tmp} {assign body : Code} {Q : Exit → Act → World → Prop} {a : Act} {w : World}
 {gf : Nat} {lb : Array Value} (hg : a.eval g = .func (.func gf) #[] lb) (eg : ∀ args w, (callFunc gf args).run P w = .ok (.enter gf args) w)
 {encs : α → Array Value} {L : List α} {N : Nat} {Kp : World → World → Prop} {w0 : World} (hseq : SeqStopsK Fence.wide 8 P gf lb encs Kp (· = L) (· <+: L) N w0)
 (hKt : ∀ {A B C : World}, Kp A B → Kp B C → Kp A C) (hKb : ∀ (W : World) (l : Nat) (o o' : Obj), w.heap.size ≤ l → W.heap[l]? = some o → o.isCells = false → o.isWalk = false → Kp W (W.putObj l o'))
 (hb0 : Below w0.heap.size w0 w) (hps : ∀ x, (encs x).size = ps.size)
 (I : List α → World → Prop) (Ix : Code → List α → World → Prop) (hI : ∀ pre W W', I pre W → Soft w.heap.size W W' → I pre W') (hIx : ∀ c pre W W', Ix c pre W → Soft w.heap.size W W' → Ix c pre W')
 (hsz : ∀ pre W, I pre W → w.heap.size ≤ W.heap.size) (hszx : ∀ c pre W, Ix c pre W → w.heap.size ≤ W.heap.size) (h0 : I [] w)
 (Ax : Array Value → α → Act → World → Prop) (hAx : ∀ x a' W W', Ax a.tmps x a' W → Soft w.heap.size W W' → Ax a.tmps x a' W') (hAsz : ∀ x a' W, Ax a.tmps x a' W → w.heap.size ≤ W.heap.size)
 (hassign : ∀ (l : Nat) (pre : List α) (x : α) (W : World) (K : Act → World → Prop), I pre W → (∀ a' W', KeepsFrom w.heap.size W W' → Kp W W' → I pre W' → Ax a.tmps x a' W' → K a' W') →
  assign.wpIn (Fence.wide.inRound l) 7 P (Exit.then K (fun _ _ _ => False)) { tmps := (ps.zip (encs x)).foldl (fun t (p, v) => t.setIfInBounds p v) a.tmps, defers := [] } W)
 (hbody : ∀ (l : Nat) (pre : List α) (x : α) (a' : Act) (W : World), I pre W → Ax a.tmps x a' W → pre.length < N → body.wpIn (Fence.wide.inRound l) 7 P (ownPostG w.heap.size Kp I Ix (pre ++ [x]) W) a' W)
 (hdone : ∀ (D : Nat) (W : World), w.heap.size ≤ D → I L W → W.heap[D]? = some (.deferred (some [])) → Q .normal { a with defers := { target := .collected D, args := #[] } :: a.defers } W)
 (hstop : ∀ (D : Nat) (c : Code) (pre : List α) (W : World), w.heap.size ≤ D → pre <+: L → Ix c pre W → W.heap[D]? = some (.deferred (some [])) → c.wp P Q { a with defers := { target := .collected D, args := #[] } :: a.defers } W) :
 (Code.rangeFunc g ps assign body).wp P Q a w := by
 refine (wpIn_wide (n := 9)).1 ?_
 refine wpIn_rangeFunc_ownH (F := Fence.wide) rfl (by omega) hg trivial eg hseq hKt hKb hb0 hps I Ix ?_ ?_ h0 (Ax a.tmps) ?_ hassign
  (fun l pre x a' W _ _ hi hax hl => hbody l pre x a' W hi hax hl) (fun D xs W hD hx hi hk => by subst hx; exact hdone D W hD hi hk) (fun D c pre W hD hp hi hk => wpIn_wide.2 (hstop D c pre W hD hp hi hk))
 · intro pre W W' row hi hg' hr
   exact hI pre W W' hi (soft_of_grown (hsz _ _ hi) hg' hr)
 · intro c pre W W' row hi hg' hr
   exact hIx c pre W W' hi (soft_of_grown (hszx _ _ _ hi) hg' hr)
 · intro x a' u W W' row hi hg' hr
   exact hAx x a' W W' hi (soft_of_grown (hAsz _ _ _ hi) hg' hr)

theorem put_other {w : World} {D b : Nat} (o : Obj) (h : D ≠ b) : (w.putObj D o).heap[b]? = w.heap[b]? := by
 simp [World.putObj, Array.getElem?_setIfInBounds_ne h]
theorem cell_put {w : World} {D : Nat} {a : Addr} {v : Value} (h : w.cell? a = some v) (hne : D ≠ a.block) (o : Obj) : (w.putObj D o).cell? a = some v :=
 (World.cell?_of_block (put_other o hne)).trans h
theorem b_put {a W : World} (h : Below a.heap.size a W) {D : Nat} (hD : a.heap.size ≤ D) (o : Obj) : Below a.heap.size a (W.putObj D o) :=
 h.grown (grownBy_putObj' W D o) h.size (fun k e => by cases e; exact hD)

/-! ### A region that draws its order, in a round: one walk in the text's order -/
section
variable {P : Program} {ops : Array Oper} {C : World → Prop} {l n : Nat}
end
def OutT (X : Nat → Prop) (a b : World) : Prop := Out X a b ∧ ∀ q, X q → q < a.heap.size → typOf b q = typOf a q
end Go.Proofs.YtbmaffijncapiaaGreatDoor
namespace Go.Proofs.YtbmaffijncapiaaGreatDoor.Num
def lowD : Nat → List Nat
 | 0 => []
 | n + 1 => (n + 1) % 10 :: lowD ((n + 1) / 10)
decreasing_by omega
theorem lowD_zero : lowD 0 = [] := by rw [lowD]
theorem lowD_pos {n : Nat} (h : 0 < n) : lowD n = n % 10 :: lowD (n / 10) := by
 cases n with
 | zero => omega
 | succ n => rw [lowD]
theorem lowD_lt (n : Nat) : ∀ d ∈ lowD n, d < 10 := by
 induction n using Nat.strongRecOn with
 | _ n ih =>
  intro d hd
  by_cases h : 0 < n
  · rw [lowD_pos h] at hd
    rcases List.mem_cons.1 hd with rfl | hd
    · omega
    · exact ih (n / 10) (by omega) d hd
  · obtain rfl : n = 0 := by omega
    rw [lowD_zero] at hd; cases hd
theorem lowD_ne {n : Nat} (h : 0 < n) : lowD n ≠ [] := by rw [lowD_pos h]; simp
theorem lowD_len (k : Nat) : ∀ n, n < 2 ^ k → (lowD n).length ≤ k := by
 induction k with
 | zero => intro n h; obtain rfl : n = 0 := by simpa using h
           rw [lowD_zero]; simp
 | succ k ih =>
  intro n h
  by_cases h0 : 0 < n
  · rw [lowD_pos h0]
    have := ih (n / 10) (by rw [Nat.pow_succ] at h; omega)
    simp; exact this
  · obtain rfl : n = 0 := by omega
    rw [lowD_zero]; simp
def padD : Nat → Nat → List Nat
 | 0, _ => []
 | k + 1, n => n % 10 :: padD k (n / 10)
theorem padD_len (k n : Nat) : (padD k n).length = k := by
 induction k generalizing n with
 | zero => rfl
 | succ k ih => simp [padD, ih]
theorem padD_snoc (k n : Nat) : padD (k + 1) n = padD k n ++ [n / 10 ^ k % 10] := by
 induction k generalizing n with
 | zero => simp [padD]
 | succ k ih =>
  rw [padD, ih (n / 10)]
  show _ = (n % 10 :: padD k (n / 10)) ++ _
  rw [List.cons_append, Nat.div_div_eq_div_mul, Nat.pow_succ, Nat.mul_comm 10]
theorem lowD_split (k : Nat) : ∀ n, 10 ^ k ≤ n → lowD n = padD k n ++ lowD (n / 10 ^ k) := by
 induction k with
 | zero => intro n _; simp [padD]
 | succ k ih =>
  intro n h
  have hp : 0 < 10 ^ k := Nat.pow_pos (by omega)
  rw [Nat.pow_succ] at h
  have hn : 0 < n := by omega
  rw [lowD_pos hn, ih (n / 10) (by rw [Nat.le_div_iff_mul_le (by omega)]; exact h), padD, Nat.div_div_eq_div_mul, Nat.pow_succ, Nat.mul_comm 10]
  rfl
theorem padD_low (k : Nat) : ∀ n, n < 10 ^ k → padD k n = lowD n ++ List.replicate (k - (lowD n).length) 0 ∧ (lowD n).length ≤ k := by
 induction k with
 | zero =>
  intro n h
  obtain rfl : n = 0 := by simpa using h
  simp [padD, lowD_zero]
 | succ k ih =>
  intro n h
  have h2 : n / 10 < 10 ^ k := by rw [Nat.pow_succ] at h; omega
  obtain ⟨e, hl⟩ := ih (n / 10) h2
  by_cases h0 : 0 < n
  · rw [padD, e, lowD_pos h0]
    refine ⟨?_, by simpa using hl⟩
    simp
  · obtain rfl : n = 0 := by omega
    rw [padD, e]
    simp [lowD_zero, List.replicate_succ]
theorem padD_mod (k : Nat) : ∀ n, padD k (n % 10 ^ k) = padD k n := by
 induction k with
 | zero => intro n; rfl
 | succ k ih =>
  intro n
  rw [padD, padD]
  have e1 : n % 10 ^ (k + 1) % 10 = n % 10 := by
   rw [Nat.pow_succ, Nat.mul_comm]
   exact Nat.mod_mul_right_mod n 10 (10 ^ k)
  have e2 : n % 10 ^ (k + 1) / 10 = n / 10 % 10 ^ k := by
   rw [Nat.pow_succ, Nat.mul_comm]
   exact Nat.mod_mul_right_div_self n 10 (10 ^ k)
  rw [e1, e2, ih]
def pcs : Nat → List Nat
 | 0 => []
 | n + 1 => (n + 1) % 1000000000 :: pcs ((n + 1) / 1000000000)
decreasing_by omega
theorem pcs_zero : pcs 0 = [] := by rw [pcs]
theorem pcs_pos {n : Nat} (h : 0 < n) : pcs n = n % 1000000000 :: pcs (n / 1000000000) := by
 cases n with
 | zero => omega
 | succ n => rw [pcs]
theorem pcs_lt (n : Nat) : ∀ d ∈ pcs n, d < 1000000000 := by
 induction n using Nat.strongRecOn with
 | _ n ih =>
  intro d hd
  by_cases h : 0 < n
  · rw [pcs_pos h] at hd
    rcases List.mem_cons.1 hd with rfl | hd
    · omega
    · exact ih (n / 1000000000) (by omega) d hd
  · obtain rfl : n = 0 := by omega
    rw [pcs_zero] at hd; cases hd
theorem pcs_ne {n : Nat} (h : 0 < n) : pcs n ≠ [] := by rw [pcs_pos h]; simp
def lowP : List Nat → List Nat
 | [] => []
 | [p] => lowD p
 | p :: q :: l => padD 9 p ++ lowP (q :: l)
theorem lowP_pcs (n : Nat) : lowP (pcs n) = lowD n := by
 induction n using Nat.strongRecOn with
 | _ n ih =>
  by_cases h : 0 < n
  · rw [pcs_pos h]
    by_cases h2 : 0 < n / 1000000000
    · have e := ih (n / 1000000000) (by omega)
      rw [pcs_pos h2] at e ⊢
      rw [lowP, e, lowD_split 9 n (by omega)]
      have := padD_mod 9 n
      rw [show (10 : Nat) ^ 9 = 1000000000 from rfl] at *
      rw [this]
    · have h3 : n / 1000000000 = 0 := by omega
      rw [h3, pcs_zero, lowP, Nat.mod_eq_of_lt (by omega)]
  · obtain rfl : n = 0 := by omega
    rw [pcs_zero, lowD_zero]; rfl
theorem pcs_last (n : Nat) : ∀ h : pcs n ≠ [], 0 < (pcs n).getLast h := by
 induction n using Nat.strongRecOn with
 | _ n ih =>
  intro h
  have hn : 0 < n := by
   rcases Nat.eq_zero_or_pos n with rfl | h'
   · exact absurd pcs_zero h
   · exact h'
  by_cases h2 : 0 < n / 1000000000
  · have h3 := ih (n / 1000000000) (by omega) (pcs_ne h2)
    have e : (pcs n).getLast h = (pcs (n / 1000000000)).getLast (pcs_ne h2) := by
     have : ∀ l (hl : l ≠ []), l = n % 1000000000 :: pcs (n / 1000000000) → l.getLast hl = (pcs (n / 1000000000)).getLast (pcs_ne h2) := by
      intro l hl el; subst el; exact List.getLast_cons (pcs_ne h2)
     exact this _ h (pcs_pos hn)
    rw [e]; exact h3
  · have e : (pcs n).getLast h = n % 1000000000 := by
     have : ∀ l (hl : l ≠ []), l = [n % 1000000000] → l.getLast hl = n % 1000000000 := by
      intro l hl el; subst el; rfl
     exact this _ h (by rw [pcs_pos hn, show n / 1000000000 = 0 by omega, pcs_zero])
    rw [e]
    have : n < 1000000000 := by omega
    rw [Nat.mod_eq_of_lt this]; exact hn
def asc (l : List Nat) : List UInt8 := l.reverse.map fun d => UInt8.ofNat (48 + d)
theorem asc_append (l m : List Nat) : asc (l ++ m) = asc m ++ asc l := by simp [asc]
theorem lowD_last (n : Nat) : ∀ h : lowD n ≠ [], 0 < (lowD n).getLast h := by
 induction n using Nat.strongRecOn with
 | _ n ih =>
  intro h
  have hn : 0 < n := by
   rcases Nat.eq_zero_or_pos n with rfl | h'
   · exact absurd lowD_zero h
   · exact h'
  by_cases h2 : 0 < n / 10
  · have h3 := ih (n / 10) (by omega) (lowD_ne h2)
    have e : (lowD n).getLast h = (lowD (n / 10)).getLast (lowD_ne h2) := by
     have : ∀ l (hl : l ≠ []), l = n % 10 :: lowD (n / 10) → l.getLast hl = (lowD (n / 10)).getLast (lowD_ne h2) := by
      intro l hl el; subst el; exact List.getLast_cons (lowD_ne h2)
     exact this _ h (lowD_pos hn)
    rw [e]; exact h3
  · have e : (lowD n).getLast h = n % 10 := by
     have : ∀ l (hl : l ≠ []), l = [n % 10] → l.getLast hl = n % 10 := by
      intro l hl el; subst el; rfl
     exact this _ h (by rw [lowD_pos hn, show n / 10 = 0 by omega, lowD_zero])
    rw [e]; omega
def natTxt (n : Nat) : List UInt8 := if n = 0 then [48] else asc (lowD n)
def intTxt (z : Int) : List UInt8 := (if z < 0 then [45] else []) ++ natTxt z.natAbs
theorem asc_pad_top {p : Nat} (h0 : 0 < p) (h : p < 1000000000) : (asc (padD 9 p)).dropWhile (· == 48) = asc (lowD p) := by
 obtain ⟨e, _⟩ := padD_low 9 p h
 rw [e, asc_append]
 have hz : asc (List.replicate (9 - (lowD p).length) 0) = List.replicate (9 - (lowD p).length) 48 := by simp [asc]
 rw [hz]
 have hd : ∀ (n : Nat) (l : List UInt8), (List.replicate n 48 ++ l).dropWhile (· == 48) = l.dropWhile (· == 48) := by
  intro n l
  induction n with
  | zero => rfl
  | succ n ih => rw [List.replicate_succ, List.cons_append, List.dropWhile_cons]; simp [ih]
 rw [hd]
 have hne := lowD_ne h0
 have hl := lowD_last p hne
 have hlt := lowD_lt p _ (List.getLast_mem hne)
 have e2 : asc (lowD p) = UInt8.ofNat (48 + (lowD p).getLast hne) :: asc (lowD p).dropLast := by
  conv => lhs; rw [← List.dropLast_concat_getLast hne]
  rw [asc_append]; rfl
 have h3 : (UInt8.ofNat (48 + (lowD p).getLast hne) == 48) = false := by
  rw [beq_eq_false_iff_ne]
  intro h
  have := congrArg UInt8.toNat h
  rw [UInt8.toNat_ofNat'] at this
  have h48 : (48 : UInt8).toNat = 48 := rfl
  rw [h48] at this
  omega
 rw [e2, List.dropWhile_cons, if_neg]
 intro h
 have h4 : (UInt8.ofNat (48 + (lowD p).getLast hne) == 48) = true := h
 rw [h3] at h4; cases h4
theorem lowP_cons {p : Nat} {l : List Nat} (h : l ≠ []) : lowP (p :: l) = padD 9 p ++ lowP l := by
 cases l with
 | nil => exact absurd rfl h
 | cons q l => rfl
theorem asc_len (l : List Nat) : (asc l).length = l.length := by simp [asc]
end Go.Proofs.YtbmaffijncapiaaGreatDoor.Num
