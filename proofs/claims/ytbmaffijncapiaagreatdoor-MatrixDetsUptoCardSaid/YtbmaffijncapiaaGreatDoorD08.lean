/- Texts of this seat, laid together: Sh, LimbI, LimbJ, NumT, GrT. Each opens with its own remark, which says what it proves, and under which conditions. -/
import Derived.Test.YtbmaffijncapiaaGreatDoorD01
import Derived.Test.YtbmaffijncapiaaGreatDoorD02
import Derived.Shelf.Small.Bits
import Derived.Shelf.Spec.TrailingZeros
import Derived.Shelf.Strings.Builder1
import Derived.Shelf.Strings.Trim
import Derived.Test.YtbmaffijncapiaaGreatDoorD06
import Derived.Test.YtbmaffijncapiaaGreatDoorD05
import Derived.StillTail
import Derived.Deep.Quiet
set_option linter.unusedVariables false
set_option linter.unusedSimpArgs false
/- Contracts of Go's library, laid from the shelf (printed by wip/bin/mk_sh.sh): math/bits, strings.Builder, strings.TrimLeft. -/
namespace Go.Proofs.YtbmaffijncapiaaGreatDoor
open Num
open Go.ChangeShapes Go.WideShapes Go.ChangeAt Go.RowKit
set_option linter.unusedVariables false
def sh_lays169_ren : Go.Shelf.Ren := ⟨fun | 169 => 237 | n => n, fun | 70 => 284 | 9 => 9 | 0 => 0 | 72 => 286 | 37 => 173 | 127 => 308 | 3 => 3 | 5 => 5 | n => n, fun | n => n⟩
theorem sh_lays169 : Go.Proofs.Lays.n169 Tryz.prog sh_lays169_ren := {
  mixed := by kernel_rfl
  f169 := Tryz.func237.trans (congrArg some (by kernel_rfl))
  t0 := Tryz.underlying0
  a0 := Tryz.isAgg0
  z0 := Tryz.sizeOf0
  v0 := Tryz.zeroValue0
  t3 := Tryz.underlying3
  a3 := Tryz.isAgg3
  z3 := Tryz.sizeOf3
  v3 := Tryz.zeroValue3
  t9 := Tryz.underlying9
  a9 := Tryz.isAgg9
  z9 := Tryz.sizeOf9
  v9 := Tryz.zeroValue9
  t37 := Tryz.underlying173
  a37 := Tryz.isAgg173
  z37 := Tryz.sizeOf173
  v37 := Tryz.zeroValue173
  t70 := Tryz.underlying284
  a70 := Tryz.isAgg284
  z70 := Tryz.sizeOf284
  v70 := Tryz.zeroValue284
  t72 := Tryz.underlying286
  a72 := Tryz.isAgg286
  z72 := Tryz.sizeOf286
  v72 := Tryz.zeroValue286
  t127 := Tryz.underlying308
  a127 := Tryz.isAgg308
  z127 := Tryz.sizeOf308
  v127 := Tryz.zeroValue308 }
theorem sh_Builder_Extra_169 : Go.Proofs.Builder.Extra Tryz.prog sh_lays169_ren := {
  sizeBuilder := by kernel_rfl
  liesBuilder := by kernel_rfl
  t5 := Tryz.underlying5
  a5 := Tryz.isAgg5
  z5 := Tryz.sizeOf5
  v5 := Tryz.zeroValue5
  infoByte := by kernel_rfl
  cellsByte := by kernel_rfl
  sizeByte := by kernel_rfl
  neB5 := by decide }
def sh_lays161_ren : Go.Shelf.Ren := ⟨fun | 161 => 260 | 231 => 273 | 227 => 274 | 233 => 275 | 235 => 276 | 228 => 283 | 197 => 284 | 151 => 285 | 260 => 287 | 152 => 288 | 137 => 289 | 119 => 290 | 224 => 291 | 225 => 292 | 217 => 293 | 266 => 294 | n => n, fun | 9 => 9 | 4 => 4 | 3 => 3 | 5 => 5 | 117 => 314 | 116 => 313 | 0 => 0 | 124 => 317 | 105 => 325 | 21 => 21 | 119 => 330 | 46 => 194 | 139 => 333 | 138 => 332 | n => n, fun | 3 => 1 | 4 => 2 | n => n⟩
theorem sh_lays161 : Go.Proofs.Lays.n161 Tryz.prog sh_lays161_ren := {
  mixed := by kernel_rfl
  f119 := Tryz.func290.trans (congrArg some (by kernel_rfl))
  f137 := Tryz.func289.trans (congrArg some (by kernel_rfl))
  f151 := Tryz.func285.trans (congrArg some (by kernel_rfl))
  f152 := Tryz.func288.trans (congrArg some (by kernel_rfl))
  f161 := Tryz.func260.trans (congrArg some (by kernel_rfl))
  f197 := Tryz.func284.trans (congrArg some (by kernel_rfl))
  f217 := Tryz.func293.trans (congrArg some (by kernel_rfl))
  f224 := Tryz.func291.trans (congrArg some (by kernel_rfl))
  f225 := Tryz.func292.trans (congrArg some (by kernel_rfl))
  f227 := Tryz.func274.trans (congrArg some (by kernel_rfl))
  f228 := Tryz.func283.trans (congrArg some (by kernel_rfl))
  f231 := Tryz.func273.trans (congrArg some (by kernel_rfl))
  f233 := Tryz.func275.trans (congrArg some (by kernel_rfl))
  f235 := Tryz.func276.trans (congrArg some (by kernel_rfl))
  f260 := Tryz.func287.trans (congrArg some (by kernel_rfl))
  f266 := Tryz.func294.trans (congrArg some (by kernel_rfl))
  t0 := Tryz.underlying0
  a0 := Tryz.isAgg0
  z0 := Tryz.sizeOf0
  v0 := Tryz.zeroValue0
  t3 := Tryz.underlying3
  a3 := Tryz.isAgg3
  z3 := Tryz.sizeOf3
  v3 := Tryz.zeroValue3
  t4 := Tryz.underlying4
  a4 := Tryz.isAgg4
  z4 := Tryz.sizeOf4
  v4 := Tryz.zeroValue4
  t5 := Tryz.underlying5
  a5 := Tryz.isAgg5
  z5 := Tryz.sizeOf5
  v5 := Tryz.zeroValue5
  t9 := Tryz.underlying9
  a9 := Tryz.isAgg9
  z9 := Tryz.sizeOf9
  v9 := Tryz.zeroValue9
  t21 := Tryz.underlying21
  a21 := Tryz.isAgg21
  z21 := Tryz.sizeOf21
  v21 := Tryz.zeroValue21
  t46 := Tryz.underlying194
  a46 := Tryz.isAgg194
  z46 := Tryz.sizeOf194
  v46 := Tryz.zeroValue194
  t105 := Tryz.underlying325
  a105 := Tryz.isAgg325
  z105 := Tryz.sizeOf325
  v105 := Tryz.zeroValue325
  t116 := Tryz.underlying313
  a116 := Tryz.isAgg313
  z116 := Tryz.sizeOf313
  t117 := Tryz.underlying314
  a117 := Tryz.isAgg314
  z117 := Tryz.sizeOf314
  v117 := Tryz.zeroValue314
  t119 := Tryz.underlying330
  a119 := Tryz.isAgg330
  z119 := Tryz.sizeOf330
  t124 := Tryz.underlying317
  a124 := Tryz.isAgg317
  z124 := Tryz.sizeOf317
  v124 := Tryz.zeroValue317
  t138 := Tryz.underlying332
  a138 := Tryz.isAgg332
  z138 := Tryz.sizeOf332
  v138 := Tryz.zeroValue332
  t139 := Tryz.underlying333
  a139 := Tryz.isAgg333
  z139 := Tryz.sizeOf333
  v139 := Tryz.zeroValue333
  g3 := by kernel_rfl
  g4 := by kernel_rfl }
def sh_lays133_ren : Go.Shelf.Ren := ⟨fun | 133 => 261 | 128 => 219 | n => n, fun | 51 => 177 | 3 => 3 | 4 => 4 | 46 => 194 | 5 => 5 | 9 => 9 | n => n, fun | n => n⟩
theorem sh_lays133 : Go.Proofs.Lays.n133 Tryz.prog sh_lays133_ren := {
  mixed := by kernel_rfl
  f128 := Tryz.func219.trans (congrArg some (by kernel_rfl))
  f133 := Tryz.func261.trans (congrArg some (by kernel_rfl))
  t3 := Tryz.underlying3
  a3 := Tryz.isAgg3
  z3 := Tryz.sizeOf3
  v3 := Tryz.zeroValue3
  t4 := Tryz.underlying4
  a4 := Tryz.isAgg4
  z4 := Tryz.sizeOf4
  v4 := Tryz.zeroValue4
  t5 := Tryz.underlying5
  a5 := Tryz.isAgg5
  z5 := Tryz.sizeOf5
  v5 := Tryz.zeroValue5
  t9 := Tryz.underlying9
  a9 := Tryz.isAgg9
  z9 := Tryz.sizeOf9
  v9 := Tryz.zeroValue9
  t46 := Tryz.underlying194
  a46 := Tryz.isAgg194
  z46 := Tryz.sizeOf194
  v46 := Tryz.zeroValue194
  t51 := Tryz.underlying177
  a51 := Tryz.isAgg177
  z51 := Tryz.sizeOf177
  v51 := Tryz.zeroValue177 }

def sh_lays166_ren : Go.Shelf.Ren := ⟨fun | 166 => 236 | 240 => 268 | 276 => 281 | n => n, fun | 0 => 0 | 3 => 3 | 4 => 4 | 5 => 5 | 9 => 9 | 20 => 20 | 37 => 173 | 70 => 284 | 72 => 286 | 75 => 289 | 80 => 59 | 164 => 321 | n => n, fun n => n⟩
theorem sh_lays166 : Go.Proofs.Lays.n166 Tryz.prog sh_lays166_ren := {
  mixed := by kernel_rfl
  f166 := Tryz.func236.trans (congrArg some (by kernel_rfl))
  f240 := Tryz.func268.trans (congrArg some (by kernel_rfl))
  f276 := Tryz.func281.trans (congrArg some (by kernel_rfl))
  t0 := Tryz.underlying0
  a0 := Tryz.isAgg0
  z0 := Tryz.sizeOf0
  v0 := Tryz.zeroValue0
  t3 := Tryz.underlying3
  a3 := Tryz.isAgg3
  z3 := Tryz.sizeOf3
  v3 := Tryz.zeroValue3
  t4 := Tryz.underlying4
  a4 := Tryz.isAgg4
  z4 := Tryz.sizeOf4
  v4 := Tryz.zeroValue4
  t9 := Tryz.underlying9
  a9 := Tryz.isAgg9
  z9 := Tryz.sizeOf9
  v9 := Tryz.zeroValue9
  t20 := Tryz.underlying20
  a20 := Tryz.isAgg20
  z20 := Tryz.sizeOf20
  v20 := Tryz.zeroValue20
  t37 := Tryz.underlying173
  a37 := Tryz.isAgg173
  z37 := Tryz.sizeOf173
  v37 := Tryz.zeroValue173
  t70 := Tryz.underlying284
  a70 := Tryz.isAgg284
  z70 := Tryz.sizeOf284
  v70 := Tryz.zeroValue284
  t72 := Tryz.underlying286
  a72 := Tryz.isAgg286
  z72 := Tryz.sizeOf286
  v72 := Tryz.zeroValue286
  t75 := Tryz.underlying289
  a75 := Tryz.isAgg289
  z75 := Tryz.sizeOf289
  v75 := Tryz.zeroValue289
  t164 := Tryz.underlying321
  a164 := Tryz.isAgg321
  z164 := Tryz.sizeOf321
  v164 := Tryz.zeroValue321 }
theorem sh_Builder_Extra_166 : Go.Proofs.Builder.Extra Tryz.prog sh_lays166_ren := {
  sizeBuilder := by kernel_rfl
  liesBuilder := by kernel_rfl
  t5 := Tryz.underlying5
  a5 := Tryz.isAgg5
  z5 := Tryz.sizeOf5
  v5 := Tryz.zeroValue5
  infoByte := by kernel_rfl
  cellsByte := by kernel_rfl
  sizeByte := by kernel_rfl
  neB5 := by decide }

theorem lz32_c (x : Nat) (w : World) (h : x < BB) :
    Calls Tryz.prog 261 #[.int .u32 (x : Int)] w fun e w' => e = .returned (.int .i64 (32 - (bitN x : Int))) ∧ w = w' := by
  unfold BB at h
  have := Go.Proofs.Any.bits_LeadingZeros32 sh_lays133 (x : Int) w (by omega) (by omega)
  rw [Int.toNat_natCast, bitLen_eq x (by omega)] at this
  refine this.mono ?_
  rintro e w' ⟨rfl, rfl⟩
  exact ⟨rfl, rfl⟩
def Bld (B b : Nat) (l : List UInt8) (w : World) : Prop := Lib.IsBuilder 286 5 B b (Lib.byteCells l) w
theorem bytes_str (s : ByteArray) : Lib.strCells s = Lib.byteCells s.data.toList := rfl
theorem bytes_app (l m : List UInt8) : Lib.byteCells (l ++ m) = Lib.byteCells l ++ Lib.byteCells m := by simp [Lib.byteCells]
theorem bwrite_c (B b : Nat) (l : List UInt8) (s : ByteArray) (w : World) (h : Bld B b l w) (hlen : l.length + s.size ≤ 1099511627776) (hB : B ≤ w.heap.size) :
    Calls Tryz.prog 236 #[.pointer (some ⟨b, 0, none⟩), .string s] w fun e w' => e = .returned (.tuple #[.int .i64 s.size, .nilIface]) ∧ Bld B b (l ++ s.data.toList) w' ∧ Below B w w' := by
  refine (Go.Proofs.Any.Builder_WriteString sh_lays166 sh_Builder_Extra_166 B b (Lib.byteCells l) s w h (by rw [Lib.byteCells_length]; omega) hB).mono ?_
  rintro e w' ⟨rfl, h1, h2⟩
  refine ⟨rfl, ?_, h2⟩
  unfold Bld
  rw [bytes_app, ← bytes_str]
  exact .inr h1
theorem bstring_c (B b : Nat) (l : List UInt8) (w : World) (h : Bld B b l w) (hB : B ≤ w.heap.size) :
    Calls Tryz.prog 237 #[.pointer (some ⟨b, 0, none⟩)] w fun e w' => e = .returned (.string ⟨l.toArray⟩) ∧ Below B w w' :=
  Go.Proofs.Any.Builder_String_any sh_lays169 sh_Builder_Extra_169 B b l w h hB
theorem trimLeft_c (s : ByteArray) (w : World) :
    Calls Tryz.prog 260 #[.string s, .string ⟨#[48]⟩] w fun e w' => e = .returned (.string ⟨(Lib.trimLeftB s.data.toList 48).toArray⟩) ∧ w = w' := by
  refine (Go.Proofs.Any.strings_TrimLeft_one sh_lays161 s 48 (by decide) w).mono ?_
  rintro e w' ⟨rfl, rfl⟩
  exact ⟨rfl, rfl⟩
end Go.Proofs.YtbmaffijncapiaaGreatDoor

/- math/bits.TrailingZeros32, limb: Twos. -/
namespace Go.Proofs.YtbmaffijncapiaaGreatDoor
open Num
open Go.ChangeShapes Go.WideShapes Go.ChangeAt Go.RowKit
set_option linter.unusedVariables false
set_option linter.unusedSimpArgs false

namespace Num
end Num

end Go.Proofs.YtbmaffijncapiaaGreatDoor

/- limb: less (v, so many times, is taken from a part of u). -/
namespace Go.Proofs.YtbmaffijncapiaaGreatDoor
open Num
open Go.ChangeShapes Go.WideShapes Go.ChangeAt Go.RowKit
set_option linter.unusedVariables false
set_option linter.unusedSimpArgs false
def Rw32 (w : World) (g : Nat) (l : List Nat) : Prop := ∃ cur, w.heap[g]? = some (.cells cur 177 (0, 0)) ∧ cur.toList.take l.length = cel l
theorem Rw32.cell {w : World} {g : Nat} {l : List Nat} (h : Rw32 w g l) (k : Nat) (hk : k < l.length) : w.cell? ⟨g, k, none⟩ = some (.int .u32 (l.getD k 0 : Nat)) := by
  obtain ⟨cur, h1, h2⟩ := h
  have := cel_get l k hk
  rw [← h2, List.getElem?_take_of_lt hk] at this
  unfold World.cell?
  rw [show w.heap[(⟨g, k, none⟩ : Addr).block]? = _ from h1]
  simpa using this
theorem Rw32.frozen {w : World} {g : Nat} {l : List Nat} (h : Rw32 w g l) (k : Nat) : w.frozen? ⟨g, k, none⟩ = false := by
  obtain ⟨cur, h1, _⟩ := h
  unfold World.frozen?
  rw [show w.heap[(⟨g, k, none⟩ : Addr).block]? = _ from h1]
  simp
theorem Rw32.lt {w : World} {g : Nat} {l : List Nat} (h : Rw32 w g l) : g < w.heap.size := by obtain ⟨cur, h1, _⟩ := h; exact (Array.getElem?_eq_some_iff.1 h1).1
theorem Rw32.keep {w w' : World} {g : Nat} {l : List Nat} (h : Rw32 w g l) (hb : Below w.heap.size w w') : Rw32 w' g l := by
  have hl := h.lt
  obtain ⟨cur, h1, h2⟩ := h
  exact ⟨cur, (hb.block g hl).trans h1, h2⟩
theorem Rw32.set {w : World} {g : Nat} {l : List Nat} (h : Rw32 w g l) (k x : Nat) : Rw32 (w.setCell ⟨g, k, none⟩ (.int .u32 (x : Int))) g (l.set k x) := by
  obtain ⟨cur, h1, h2⟩ := h
  refine ⟨cur.setIfInBounds k (.int .u32 (x : Int)), ?_, ?_⟩
  · unfold World.setCell
    simp only [Array.getElem?_modify, if_true]
    rw [show w.heap[g]? = _ from h1]
    rfl
  · rw [Array.toList_setIfInBounds, List.length_set, List.take_set, h2]
    simp [cel, List.map_set]
theorem Rw32.out {X : Nat → Prop} {w w' : World} {g : Nat} {l : List Nat} (h : Rw32 w g l) (ho : Out X w w') (hx : ¬ X g) : Rw32 w' g l := by
  have hl := h.lt
  obtain ⟨cur, h1, h2⟩ := h
  exact ⟨cur, (ho.block g hl hx).trans h1, h2⟩
theorem Rw32.u32 {w : World} {g : Nat} {l : List Nat} (h : Rw32 w g l) (hl : Limbs l) {c : Nat} (hc : l.length ≤ c) (hm : c ≤ maxLen) : U32 w (some ⟨g, 0, none⟩) c l :=
  ⟨hc, hm, hl, .inr ⟨g, 0, rfl, fun k hk => by simpa using h.cell k hk, by obtain ⟨cur, h1, _⟩ := h; unfold typOf; rw [h1]⟩⟩
namespace Num
theorem less_step {O U V : List Nat} {k i c b t x : Nat} (hO : k + i < O.length) (hU : k + i < U.length) (hx : x = U.getD (k + i) 0)
    (h : win O k i + val (V.take i) * t = win U k i + (c + b) * BB ^ i) :
    ∀ cc c1 m r b1, cc = c + V.getD i 0 * t → cc = c1 * BB + m → r + m + b = x + b1 * BB → win (O.set (k + i) r) k (i + 1) + val (V.take (i + 1)) * t = win U k (i + 1) + (c1 + b1) * BB ^ (i + 1) := by
  intro cc c1 m r b1 h1 h2 h3
  rw [win_set_succ hO, win_succ hU, take_any, ← hx, Nat.pow_succ, Nat.mul_comm (BB ^ i) BB]
  exact less_arith h (h1 ▸ h2) h3
end Num
set_option maxRecDepth 100000 in
set_option maxHeartbeats 4000000 in
theorem less_c (g k n cu bv ov cv t : Nat) (U V : List Nat) (w : World) (hU : Rw32 w g U) (hUL : Limbs U) (hk : k + (n + 1) ≤ U.length) (hcu : n + 1 ≤ cu) (hkm : U.length ≤ 1099511627776) (hV : At32 w bv ov V) (hVL : Limbs V) (hVn : V.length = n) (hcv : n ≤ cv) (hg : bv ≠ g) (ht : t < BB) :
    Calls Tryz.prog 277 #[.slice (some ⟨g, k, none⟩) (n + 1) cu, .slice (some ⟨bv, ov, none⟩) n cv, .int .u64 (t : Int)] w fun e w' => (∃ (O : List Nat) (z : Nat), e = .returned (.bool (decide (0 < z))) ∧ z ≤ 1 ∧ Rw32 w' g O ∧ O.length = U.length ∧ Limbs O ∧ (∀ j, j < k ∨ k + (n + 1) ≤ j → O.getD j 0 = U.getD j 0) ∧ win O k (n + 1) + val V * t = win U k (n + 1) + z * BB ^ (n + 1)) ∧ Out (· = g) w w' := by
  go_enter Tryz.func277, Tryz.ntmps277
  go_wp2
  go_loopw [7, 8, 13] (fun cx bx x wr => ∃ (i c b : Nat) (O : List Nat), i ≤ n + 1 ∧ x = .int .i64 i ∧ cx = .int .u64 c ∧ bx = .int .u64 b ∧ c < BB ∧ b ≤ 1 ∧ Rw32 wr g O ∧ Hid (O.length = U.length) ∧ Limbs O ∧ Hid (∀ j, j < k ∨ k + i ≤ j → O.getD j 0 = U.getD j 0) ∧ Hid (win O k i + val (V.take i) * t = win U k i + (c + b) * BB ^ i) ∧ Hid (i = n + 1 → c = 0) ∧ Out (· = g) w wr) (fun _ _ x _ => n + 1 - (intOf x).toNat)
  case atStart => exact ⟨0, 0, 0, U, by omega, rfl, rfl, rfl, BB_pos, by omega, hU, Lib.hid rfl, hUL, Lib.hid (fun _ _ => rfl), Lib.hid (by simp [win_zero, val]), Lib.hid (fun h => rfl), Out.refl _ _⟩
  case round =>
    obtain ⟨i, c, b, O, hi, rfl, rfl, rfl, hcB, hb1, hO, hOl, hOL, hO0, hW, hCz, hOut⟩ := hrel
    have hol := hOl.out
    by_cases hlt : i < n + 1
    · have hltz : (i : Int) < (n : Int) + 1 := by omega
      have q0 := hO.cell (k + i) (by omega)
      have qf := hO.frozen (k + i)
      have hx := limb_get hOL (k + i)
      have hxe := hO0.out (k + i) (.inr (Nat.le_refl _))
      have HS := Lib.hid (less_step (O := O) (U := U) (V := V) (k := k) (i := i) (c := c) (b := b) (t := t) (x := O.getD (k + i) 0) (by omega) (by omega) hxe hW.out)
      clear hxe
      by_cases hiv : i < n
      · have d0 := okeep hOut (hV i (by omega)) hg
        have hy := limb_get hVL i
        have hcc : c + V.getD i 0 * t < BB * BB := by
          have h1 : V.getD i 0 * t ≤ (BB - 1) * (BB - 1) := Nat.mul_le_mul (by omega) (by omega)
          have h2 : (BB - 1) * (BB - 1) + (BB - 1) + (BB - 1) + 1 = BB * BB := by unfold BB; rfl
          omega
        generalize hye : V.getD i 0 = y at *
        generalize O.getD (k + i) 0 = x at *
        have e1 := w64 (BB_sq x hx)
        have e2 := w64 (BB_sq y hy)
        have e3 : IntKind.u64.wrap ((y : Int) * (t : Int)) = ((y * t : Nat) : Int) := by rw [← Int.natCast_mul]; exact w64 (by omega)
        have e3' : IntKind.u64.wrap ((c : Int) + ((y * t : Nat) : Int)) = ((c + y * t : Nat) : Int) := by rw [← Int.natCast_add]; exact w64 hcc
        obtain ⟨cc, hce⟩ : ∃ cc, cc = c + y * t := ⟨_, rfl⟩
        rw [← hce] at hcc e3'
        have HE := Lib.hid hce
        clear hce hye
        generalize y * t = yt at e3 e3' 
        obtain ⟨m, hm⟩ : ∃ m, m = cc % BB := ⟨_, rfl⟩
        obtain ⟨c1, h1⟩ : ∃ c1, c1 = cc / BB := ⟨_, rfl⟩
        have HZ := Lib.hid (show i + 1 = n + 1 → c1 = 0 from fun h => by omega)
        have hmB : m < BB := by rw [hm]; exact Nat.mod_lt _ BB_pos
        have h1B : c1 < BB := by rw [h1]; exact Nat.div_lt_of_lt_mul hcc
        have eand : bits .and .u64 (cc : Int) 4294967295 = (m : Int) := by
          rw [show (4294967295 : Int) = ((4294967295 : Nat) : Int) from rfl, bits_and_u64_nat cc 4294967295 (by unfold BB at hcc; omega) (by omega), show (4294967295 : Nat) = 2 ^ 32 - 1 from rfl, Nat.and_two_pow_sub_one_eq_mod, hm]; rfl
        have eshr : (cc : Int) / 4294967296 = (c1 : Int) := by unfold BB at h1; omega
        have HC := Lib.hid (show cc = c1 * BB + m by rw [h1, hm, Nat.mul_comm]; exact (Nat.div_add_mod cc BB).symm)
        clear hm h1
        by_cases hlow : m + b ≤ x
        · have e4 : IntKind.u64.wrap ((x : Int) - (m : Int)) = ((x - m : Nat) : Int) := by rw [show (x : Int) - (m : Int) = ((x - m : Nat) : Int) by omega]; exact w64 (by unfold BB at *; omega)
          have e5 : IntKind.u64.wrap (((x - m : Nat) : Int) - (b : Int)) = ((x - m - b : Nat) : Int) := by rw [show ((x - m : Nat) : Int) - (b : Int) = ((x - m - b : Nat) : Int) by omega]; exact w64 (by unfold BB at *; omega)
          have hr1 : x - m - b < BB := by omega
          have HR := Lib.hid (HS.out cc c1 m (x - m - b) 0 HE.out HC.out (by omega))
          generalize x - m - b = r at *
          generalize x - m = xm at *
          have e6 : (r : Int) / 4294967296 = 0 := by unfold BB at hr1; omega
          have e7 : (r : Int) % 4294967296 = (r : Int) := by unfold BB at hr1; omega
          have b0 : bits .and .u64 0 1 = 0 := by rfl
          have qb := hO.set (k + i) r
          have ql := limbs_set hOL (k := k + i) hr1
          have bs := hOut.set (p := ⟨g, k + i, none⟩) (fun _ => rfl) (.int .u32 (r : Int))
          have hrr := hr1
          clear hol HE hcc
          go_wp2
          refine ⟨⟨i + 1, c1, 0, O.set (k + i) r, by omega, by go_num, rfl, by first | rfl | simp, by omega, by omega, qb, Lib.hid (by simpa using hOl.out), ql, Lib.hid ?_, HR, HZ, bs⟩, by simp [intOf] <;> omega⟩
          intro j hj
          rw [getD_set_far (by omega)]
          exact hO0.out j (by omega)
        · have hD : 18446744073709551616 - (m + b - x) < 18446744073709551616 := by omega
          have hr1 : BB + x - m - b < BB := by omega
          have HR := Lib.hid (HS.out cc c1 m (BB + x - m - b) 1 HE.out HC.out (by omega))
          have e45 : ∃ X : Nat, IntKind.u64.wrap ((x : Int) - (m : Int)) = (X : Int) ∧ IntKind.u64.wrap ((X : Int) - (b : Int)) = ((18446744073709551616 - (m + b - x) : Nat) : Int) := by
            by_cases hxm : m ≤ x
            · refine ⟨x - m, ?_, ?_⟩
              · rw [show (x : Int) - (m : Int) = ((x - m : Nat) : Int) by omega]; exact w64 (by unfold BB at *; omega)
              · simp only [IntKind.wrap, IntKind.bits, IntKind.signed]
                simp
                unfold BB at *
                omega
            · refine ⟨18446744073709551616 - (m - x), ?_, ?_⟩
              · simp only [IntKind.wrap, IntKind.bits, IntKind.signed]
                simp
                unfold BB at *
                omega
              · simp only [IntKind.wrap, IntKind.bits, IntKind.signed]
                simp
                unfold BB at *
                omega
          obtain ⟨xm, e4, e5⟩ := e45
          have e7 : ((18446744073709551616 - (m + b - x) : Nat) : Int) % 4294967296 = ((BB + x - m - b : Nat) : Int) := by unfold BB at *; omega
          have e6 : ((18446744073709551616 - (m + b - x) : Nat) : Int) / 4294967296 = 4294967295 := by unfold BB at *; omega
          generalize 18446744073709551616 - (m + b - x) = D at e5 e6 e7 hD
          generalize BB + x - m - b = r at *
          have b0 : bits .and .u64 4294967295 1 = 1 := by rfl
          have qb := hO.set (k + i) r
          have ql := limbs_set hOL (k := k + i) hr1
          have bs := hOut.set (p := ⟨g, k + i, none⟩) (fun _ => rfl) (.int .u32 (r : Int))
          clear hol HE hcc
          go_wp2
          refine ⟨⟨i + 1, c1, 1, O.set (k + i) r, by omega, by go_num, rfl, by first | rfl | simp, by omega, by omega, qb, Lib.hid (by simpa using hOl.out), ql, Lib.hid ?_, HR, HZ, bs⟩, by simp [intOf] <;> omega⟩
          intro j hj
          rw [getD_set_far (by omega)]
          exact hO0.out j (by omega)
      · obtain rfl : i = n := by omega
        have hy0 : V.getD i 0 = 0 := by simp [hVn]
        rw [hy0] at HS
        have hcc : c < BB * BB := BB_sq c hcB
        generalize O.getD (k + i) 0 = x at *
        have e1 := w64 (BB_sq x hx)
        obtain ⟨cc, hce⟩ : ∃ cc, cc = c := ⟨_, rfl⟩
        have HE := Lib.hid (show cc = c + 0 * t by omega)
        subst hce
        clear hy0
        obtain ⟨m, hm⟩ : ∃ m, m = cc % BB := ⟨_, rfl⟩
        obtain ⟨c1, h1⟩ : ∃ c1, c1 = cc / BB := ⟨_, rfl⟩
        have HZ := Lib.hid (show i + 1 = i + 1 → c1 = 0 from fun _ => by rw [h1]; exact Nat.div_eq_of_lt hcB)
        have hmB : m < BB := by rw [hm]; exact Nat.mod_lt _ BB_pos
        have h1B : c1 < BB := by rw [h1]; exact Nat.div_lt_of_lt_mul hcc
        have eand : bits .and .u64 (cc : Int) 4294967295 = (m : Int) := by
          rw [show (4294967295 : Int) = ((4294967295 : Nat) : Int) from rfl, bits_and_u64_nat cc 4294967295 (by unfold BB at hcc; omega) (by omega), show (4294967295 : Nat) = 2 ^ 32 - 1 from rfl, Nat.and_two_pow_sub_one_eq_mod, hm]; rfl
        have eshr : (cc : Int) / 4294967296 = (c1 : Int) := by unfold BB at h1; omega
        have HC := Lib.hid (show cc = c1 * BB + m by rw [h1, hm, Nat.mul_comm]; exact (Nat.div_add_mod cc BB).symm)
        clear hm h1
        by_cases hlow : m + b ≤ x
        · have e4 : IntKind.u64.wrap ((x : Int) - (m : Int)) = ((x - m : Nat) : Int) := by rw [show (x : Int) - (m : Int) = ((x - m : Nat) : Int) by omega]; exact w64 (by unfold BB at *; omega)
          have e5 : IntKind.u64.wrap (((x - m : Nat) : Int) - (b : Int)) = ((x - m - b : Nat) : Int) := by rw [show ((x - m : Nat) : Int) - (b : Int) = ((x - m - b : Nat) : Int) by omega]; exact w64 (by unfold BB at *; omega)
          have hr1 : x - m - b < BB := by omega
          have HR := Lib.hid (HS.out cc c1 m (x - m - b) 0 HE.out HC.out (by omega))
          generalize x - m - b = r at *
          generalize x - m = xm at *
          have e6 : (r : Int) / 4294967296 = 0 := by unfold BB at hr1; omega
          have e7 : (r : Int) % 4294967296 = (r : Int) := by unfold BB at hr1; omega
          have b0 : bits .and .u64 0 1 = 0 := by rfl
          have qb := hO.set (k + i) r
          have ql := limbs_set hOL (k := k + i) hr1
          have bs := hOut.set (p := ⟨g, k + i, none⟩) (fun _ => rfl) (.int .u32 (r : Int))
          have hrr := hr1
          clear hol HE hcc
          go_wp2
          refine ⟨⟨i + 1, c1, 0, O.set (k + i) r, by omega, by go_num, rfl, by first | rfl | simp, by omega, by omega, qb, Lib.hid (by simpa using hOl.out), ql, Lib.hid ?_, HR, HZ, bs⟩, by simp [intOf] <;> omega⟩
          intro j hj
          rw [getD_set_far (by omega)]
          exact hO0.out j (by omega)
        · have hD : 18446744073709551616 - (m + b - x) < 18446744073709551616 := by omega
          have hr1 : BB + x - m - b < BB := by omega
          have HR := Lib.hid (HS.out cc c1 m (BB + x - m - b) 1 HE.out HC.out (by omega))
          have e45 : ∃ X : Nat, IntKind.u64.wrap ((x : Int) - (m : Int)) = (X : Int) ∧ IntKind.u64.wrap ((X : Int) - (b : Int)) = ((18446744073709551616 - (m + b - x) : Nat) : Int) := by
            by_cases hxm : m ≤ x
            · refine ⟨x - m, ?_, ?_⟩
              · rw [show (x : Int) - (m : Int) = ((x - m : Nat) : Int) by omega]; exact w64 (by unfold BB at *; omega)
              · simp only [IntKind.wrap, IntKind.bits, IntKind.signed]
                simp
                unfold BB at *
                omega
            · refine ⟨18446744073709551616 - (m - x), ?_, ?_⟩
              · simp only [IntKind.wrap, IntKind.bits, IntKind.signed]
                simp
                unfold BB at *
                omega
              · simp only [IntKind.wrap, IntKind.bits, IntKind.signed]
                simp
                unfold BB at *
                omega
          obtain ⟨xm, e4, e5⟩ := e45
          have e7 : ((18446744073709551616 - (m + b - x) : Nat) : Int) % 4294967296 = ((BB + x - m - b : Nat) : Int) := by unfold BB at *; omega
          have e6 : ((18446744073709551616 - (m + b - x) : Nat) : Int) / 4294967296 = 4294967295 := by unfold BB at *; omega
          generalize 18446744073709551616 - (m + b - x) = D at e5 e6 e7 hD
          generalize BB + x - m - b = r at *
          have b0 : bits .and .u64 4294967295 1 = 1 := by rfl
          have qb := hO.set (k + i) r
          have ql := limbs_set hOL (k := k + i) hr1
          have bs := hOut.set (p := ⟨g, k + i, none⟩) (fun _ => rfl) (.int .u32 (r : Int))
          clear hol HE hcc
          go_wp2
          refine ⟨⟨i + 1, c1, 1, O.set (k + i) r, by omega, by go_num, rfl, by first | rfl | simp, by omega, by omega, qb, Lib.hid (by simpa using hOl.out), ql, Lib.hid ?_, HR, HZ, bs⟩, by simp [intOf] <;> omega⟩
          intro j hj
          rw [getD_set_far (by omega)]
          exact hO0.out j (by omega)
    · obtain rfl : i = n + 1 := by omega
      have HW := Lib.hid (show c = 0 ∧ win O k (n + 1) + val V * t = win U k (n + 1) + b * BB ^ (n + 1) by
        have h := hW.out
        rw [List.take_of_length_le (by omega)] at h
        have h0 : c = 0 := hCz.out rfl
        subst h0
        exact ⟨rfl, by simpa using h⟩)
      clear hol
      go_wp2
      go_ret
      exact ⟨⟨O, b, by simp, hb1, hO, hOl.out, hOL, hO0.out, HW.out.2⟩, hOut⟩
end Go.Proofs.YtbmaffijncapiaaGreatDoor

/- Plain: the reference's sums, differences, binary digits. -/
namespace Go.Proofs.YtbmaffijncapiaaGreatDoor.NumR
open Num (Nrm bitN bitN_half trimL)
theorem take_any (l : List Nat) (k : Nat) : val (l.take (k + 1)) = val (l.take k) + l.getD k 0 * BB ^ k := by
  by_cases h : k < l.length
  · exact val_take_succ h
  · rw [List.take_of_length_le (by omega), List.take_of_length_le (by omega)]; simp [show l.length ≤ k by omega]
theorem val_snoc (O : List Nat) (x : Nat) : val (O ++ [x]) = val O + x * BB ^ O.length := by rw [val_append]; simp [val, Nat.mul_comm]
theorem plus_step {O A B : List Nat} {i c t : Nat} (hO : O.length = i) (ht : t = c + A.getD i 0 + B.getD i 0) (h : val O + c * BB ^ i = val (A.take i) + val (B.take i)) :
    val (O ++ [t % BB]) + t / BB * BB ^ (i + 1) = val (A.take (i + 1)) + val (B.take (i + 1)) := by
  rw [val_snoc, take_any, take_any, hO]
  have e : t * BB ^ i = t / BB * BB ^ (i + 1) + t % BB * BB ^ i := by
    conv => lhs; rw [← Nat.div_add_mod t BB, Nat.add_mul]
    rw [Nat.pow_succ]; congr 1; ac_rfl
  have e2 : t * BB ^ i = c * BB ^ i + A.getD i 0 * BB ^ i + B.getD i 0 * BB ^ i := by rw [ht]; simp only [Nat.add_mul]
  omega
theorem minus_step {O A B : List Nat} {i c r c' : Nat} (hO : O.length = i) (hr : r + (c + B.getD i 0) = A.getD i 0 + c' * BB) (h : val O + val (B.take i) = val (A.take i) + c * BB ^ i) :
    val (O ++ [r]) + val (B.take (i + 1)) = val (A.take (i + 1)) + c' * BB ^ (i + 1) := by
  rw [val_snoc, take_any, take_any, hO]
  have e := congrArg (· * BB ^ i) hr
  simp only [Nat.add_mul] at e
  have e2 : c' * BB * BB ^ i = c' * BB ^ (i + 1) := by rw [Nat.pow_succ]; ac_rfl
  omega
theorem minus_end {A B : List Nat} {V c : Nat} (hA : Limbs A) (hle : val B ≤ val A) (hlen : B.length ≤ A.length) (h : V + val (B.take A.length) = val (A.take A.length) + c * BB ^ A.length) (hV : V < BB ^ A.length) : V + val B = val A := by
  rw [List.take_of_length_le hlen, List.take_length] at h
  rcases Nat.eq_zero_or_pos c with rfl | hc
  · omega
  · have : 1 * BB ^ A.length ≤ c * BB ^ A.length := Nat.mul_le_mul hc (Nat.le_refl _)
    omega
theorem BB_pow (n : Nat) : BB ^ n = 2 ^ (16 * n) := by rw [Nat.pow_mul]; rfl
theorem bitN_snoc {l : List Nat} {x : Nat} (hl : Limbs l) (hx : x ≠ 0) : bitN (val (l ++ [x])) = 16 * l.length + bitN x := by
  have h1 := val_lt hl
  rw [val_append]
  simp only [val, Nat.mul_zero, Nat.add_zero]
  rw [BB_pow] at *
  have hp : 0 < 2 ^ (16 * l.length) := Nat.pow_pos (by omega)
  have h2 : 2 ^ (16 * l.length) * 1 ≤ 2 ^ (16 * l.length) * x := Nat.mul_le_mul_left _ (by omega)
  unfold bitN
  rw [if_neg (by omega), if_neg hx]
  have e : (val l + 2 ^ (16 * l.length) * x).log2 = 16 * l.length + x.log2 := by
    rw [Nat.log2_eq_iff (by omega)]
    have k1 := Nat.log2_self_le hx
    have k2 := @Nat.lt_log2_self x
    constructor
    · rw [Nat.pow_add]
      have := Nat.mul_le_mul_left (2 ^ (16 * l.length)) k1
      omega
    · rw [Nat.add_assoc, Nat.pow_add]
      have := Nat.mul_le_mul_left (2 ^ (16 * l.length)) (show x + 1 ≤ 2 ^ (x.log2 + 1) from k2)
      rw [Nat.mul_add] at this
      omega
  omega
theorem bitN_nrm {l : List Nat} {k : Nat} (hl : Limbs l) (hn : Nrm l) (hk : l.length = k + 1) : bitN (val l) = 16 * k + bitN (l.getD k 0) := by
  obtain ⟨m, x, rfl⟩ : ∃ m x, l = m ++ [x] := ⟨l.dropLast, l.getLast (by intro e; subst e; simp at hk), (List.dropLast_concat_getLast _).symm⟩
  simp at hk
  have hx := hn (by simp)
  simp at hx
  rw [bitN_snoc (fun y hy => hl y (by simp [hy])) hx, hk]
  congr 2
  simp [← hk]
theorem lt_bitN (v : Nat) : v < 2 ^ bitN v := by
  unfold bitN
  split
  · subst_vars; simp
  · exact Nat.lt_log2_self
theorem bitN_le {v n : Nat} (h : v < 2 ^ n) : bitN v ≤ n := by
  unfold bitN
  split
  · omega
  · rename_i h0
    have := Nat.log2_self_le h0
    have h2 : 2 ^ v.log2 < 2 ^ n := Nat.lt_of_le_of_lt this h
    have := (Nat.pow_lt_pow_iff_right (a := 2) (by omega)).1 h2
    omega
theorem getD_val {l : List Nat} (hl : Limbs l) (j : Nat) : l.getD j 0 = val l / BB ^ j % BB := by
  induction l generalizing j with
  | nil => simp [val]
  | cons x l ih =>
    have hx : x < BB := hl x (by simp)
    have hl' : Limbs l := fun y hy => hl y (by simp [hy])
    cases j with
    | zero => simp [val]; exact (Nat.mod_eq_of_lt hx).symm
    | succ j =>
      rw [List.getD_cons_succ, ih hl' j, val, Nat.pow_succ, Nat.mul_comm (BB ^ j), ← Nat.div_div_eq_div_mul]
      rw [Nat.add_mul_div_left _ _ BB_pos, Nat.div_eq_of_lt hx, Nat.zero_add]
theorem bit_val {l : List Nat} (hl : Limbs l) (k : Nat) : l.getD (k / 16) 0 / 2 ^ (k % 16) % 2 = val l / 2 ^ k % 2 := by
  rw [getD_val hl, BB_pow]
  have e1 : 2 ^ k = 2 ^ (16 * (k / 16)) * 2 ^ (k % 16) := by rw [← Nat.pow_add]; congr 1; omega
  rw [e1, ← Nat.div_div_eq_div_mul]
  generalize val l / 2 ^ (16 * (k / 16)) = x
  have hk : k % 16 < 16 := Nat.mod_lt _ (by omega)
  generalize k % 16 = m at *
  have e2 : BB = 2 ^ m * (2 * 2 ^ (15 - m)) := by
    show (2 : Nat) ^ 16 = _
    rw [← Nat.mul_assoc, ← Nat.pow_succ, ← Nat.pow_add]; congr 1; omega
  rw [e2, Nat.mod_mul_right_div_self, Nat.mod_mul_right_mod]
theorem twice_step {R R0 : List Nat} {i c t V : Nat} (hi : i < R.length) (he : R.getD i 0 = R0.getD i 0) (ht : t = c + 2 * R0.getD i 0)
    (h : val R + c * BB ^ i = V + val (R0.take i)) : val (R.set i (t % BB)) + t / BB * BB ^ (i + 1) = V + val (R0.take (i + 1)) := by
  have a1 := val_set (l := R) (k := i) (t % BB) hi
  rw [take_any, ← he]
  have e : t * BB ^ i = t / BB * BB ^ (i + 1) + t % BB * BB ^ i := by
    conv => lhs; rw [← Nat.div_add_mod t BB, Nat.add_mul]
    rw [Nat.pow_succ]; congr 1; ac_rfl
  have e2 : t * BB ^ i = c * BB ^ i + 2 * (R.getD i 0 * BB ^ i) := by rw [ht, he]; simp only [Nat.add_mul]; congr 1; ac_rfl
  omega
theorem nrm_of_val {l : List Nat} (hl : Limbs l) (h : l ≠ [] → BB ^ (l.length - 1) ≤ val l) : Nrm l := by
  intro hn e
  obtain ⟨m, x, rfl⟩ : ∃ m x, l = m ++ [x] := ⟨l.dropLast, l.getLast hn, (List.dropLast_concat_getLast _).symm⟩
  simp at e
  subst e
  have h1 := h hn
  have h2 := val_lt (l := m) (fun y hy => hl y (by simp [hy]))
  rw [val_snoc] at h1
  simp at h1
  omega
theorem or_val {l : List Nat} {k Q : Nat} (hl : Limbs l) (hv : val l = Q * 2 ^ (k + 1)) : l.getD (k / 16) 0 ||| 2 ^ (k % 16) = l.getD (k / 16) 0 + 2 ^ (k % 16) ∧ l.getD (k / 16) 0 + 2 ^ (k % 16) < BB := by
  have hk : k % 16 < 16 := Nat.mod_lt _ (by omega)
  have e1 : l.getD (k / 16) 0 = 2 ^ (k % 16 + 1) * (Q % 2 ^ (15 - k % 16)) := by
    rw [getD_val hl, hv, BB_pow]
    have e1 : 2 ^ (k + 1) = 2 ^ (16 * (k / 16)) * 2 ^ (k % 16 + 1) := by rw [← Nat.pow_add]; congr 1; omega
    rw [e1, show Q * (2 ^ (16 * (k / 16)) * 2 ^ (k % 16 + 1)) = 2 ^ (16 * (k / 16)) * (2 ^ (k % 16 + 1) * Q) by ac_rfl, Nat.mul_div_cancel_left _ (Nat.pow_pos (by omega))]
    have e2 : BB = 2 ^ (k % 16 + 1) * 2 ^ (15 - k % 16) := by
      show (2 : Nat) ^ 16 = _
      rw [← Nat.pow_add]; congr 1; omega
    rw [e2, Nat.mul_mod_mul_left]
  have e2 : BB = 2 ^ (k % 16 + 1) * 2 ^ (15 - k % 16) := by
    show (2 : Nat) ^ 16 = _
    rw [← Nat.pow_add]; congr 1; omega
  have hm : Q % 2 ^ (15 - k % 16) < 2 ^ (15 - k % 16) := Nat.mod_lt _ (Nat.pow_pos (by omega))
  have hlt : 2 ^ (k % 16) < 2 ^ (k % 16 + 1) := Nat.pow_lt_pow_right (by omega) (by omega)
  generalize Q % 2 ^ (15 - k % 16) = z at *
  rw [e1]
  refine ⟨(Nat.two_pow_add_eq_or_of_lt hlt z).symm, ?_⟩
  rw [e2]
  have := Nat.mul_le_mul_left (2 ^ (k % 16 + 1)) hm
  rw [Nat.mul_succ] at this
  omega
theorem set_bit {l : List Nat} {k : Nat} (hk : k / 16 < l.length) : val (l.set (k / 16) (l.getD (k / 16) 0 + 2 ^ (k % 16))) = val l + 2 ^ k := by
  have a1 := val_set (l := l) (k := k / 16) (l.getD (k / 16) 0 + 2 ^ (k % 16)) hk
  have e1 : 2 ^ k = 2 ^ (k % 16) * BB ^ (k / 16) := by rw [BB_pow, ← Nat.pow_add]; congr 1; omega
  rw [Nat.add_mul, ← e1] at a1
  omega
theorem half_step (A k : Nat) : A / 2 ^ k = 2 * (A / 2 ^ (k + 1)) + A / 2 ^ k % 2 := by
  rw [Nat.pow_succ, ← Nat.div_div_eq_div_mul]
  have := Nat.div_add_mod (A / 2 ^ k) 2
  omega
theorem bit_take {A k Q R D V b : Nat} (h : A / 2 ^ (k + 1) = Q * D + R) (hb : b = A / 2 ^ k % 2) (hv : V = Q * 2 ^ (k + 1)) :
    A / 2 ^ k = 2 * Q * D + (b + 2 * R) ∧ V = 2 * Q * 2 ^ k := by
  have h1 := half_step A k
  rw [h, ← hb] at h1
  refine ⟨?_, by rw [hv, Nat.pow_succ]; ac_rfl⟩
  rw [h1, Nat.mul_add]
  have : 2 * (Q * D) = 2 * Q * D := by ac_rfl
  omega
theorem bit_more {X Q D R V k : Nat} (h : X = 2 * Q * D + R) (hD : D ≤ R) (hv : V = 2 * Q * 2 ^ k) : X = (2 * Q + 1) * D + (R - D) ∧ V + 2 ^ k = (2 * Q + 1) * 2 ^ k := by
  rw [Nat.add_mul, Nat.add_mul]
  omega
theorem short_step {O A : List Nat} {j c rest : Nat} (hc : 0 < c) (hO : j < O.length) (h0 : O.getD j 0 = 0) (hA : j < A.length)
    (h : val O * c + rest * BB ^ (j + 1) + val (A.take (j + 1)) = val A) : val (O.set j ((rest * BB + A.getD j 0) / c)) * c + (rest * BB + A.getD j 0) % c * BB ^ j + val (A.take j) = val A := by
  have a1 := val_set (l := O) (k := j) ((rest * BB + A.getD j 0) / c) hO
  rw [h0] at a1
  rw [take_any] at h
  have e := Nat.div_add_mod (rest * BB + A.getD j 0) c
  generalize (rest * BB + A.getD j 0) / c = q at *
  generalize (rest * BB + A.getD j 0) % c = m at *
  have e1 : val (O.set j q) = val O + q * BB ^ j := by omega
  rw [e1, Nat.add_mul]
  have e2 : (c * q + m) * BB ^ j = rest * BB ^ (j + 1) + A.getD j 0 * BB ^ j := by
    rw [e, Nat.add_mul, Nat.pow_succ]; congr 1; ac_rfl
  rw [Nat.add_mul] at e2
  have e3 : q * BB ^ j * c = c * q * BB ^ j := by ac_rfl
  omega
theorem short_lt {rest x c : Nat} (hr : rest < c) (hx : x < BB) : (rest * BB + x) / c < BB := by
  rw [Nat.div_lt_iff_lt_mul (by omega)]
  have : (rest + 1) * BB ≤ c * BB := Nat.mul_le_mul hr (Nat.le_refl _)
  rw [Nat.add_mul] at this
  rw [Nat.mul_comm BB c]
  omega
end Go.Proofs.YtbmaffijncapiaaGreatDoor.NumR

/- A region that draws its order: a head whose calls answer what their arguments say and only make memory, and a tail whose order is forced: one walk. -/
namespace Go.Proofs.YtbmaffijncapiaaGreatDoor
open Go.ChangeShapes Go.WideShapes Go.ChangeAt Go.RowKit
set_option linter.unusedVariables false
set_option linter.unusedSimpArgs false
section
variable {P : Program} {ops : Array Oper} {md : Region.Mode} {C : World → Prop}
def headQ (P : Program) (md : Region.Mode) (ops : Array Oper) (C : World → Prop) (n : Nat) (L : Array Bool → Act → Prop) : Nat → Array Bool → Act → Prop
  | 0, ls, a => L ls a
  | f + 1, ls, a => Region.ready md ops ls ≠ [] ∧ ∀ i ∈ Region.ready md ops ls, i < n ∧ qOp P ops C i (headQ P md ops C n L f (ls.setIfInBounds i true)) a
theorem headQ_any {n g : Nat} {L : Array Bool → Act → Prop} {Q : Exit → Act → World → Prop} (hL : ∀ ls a w, C w → L ls a → wpAny P md ops Q g ls a w) :
    ∀ (f : Nat) (ls : Array Bool) (a : Act) (w : World), C w → headQ P md ops C n L f ls a → wpAny P md ops Q (f + g) ls a w := by
  intro f
  induction f with
  | zero => intro ls a w hw h; rw [Nat.zero_add]; exact hL _ _ _ hw h
  | succ f ih =>
    intro ls a w hw h
    rw [Nat.add_right_comm]
    exact ⟨fun h0 => absurd h0 h.1, fun i hi => wpOp_of_qOp hw (fun a' w' hw' k => ih _ a' w' hw' k) (h.2 i hi).2⟩
theorem headQ_first {n i : Nat} {oi : Oper} {v : Value} {L : Array Bool → Act → Prop} (hi : ops[i]? = some oi) (hsel : ∀ (j : Nat) (o : Oper) cs b, ops[j]? = some o → o.op ≠ .select cs b)
    (hs : Region.sinkB md ops n = true) (hc : Region.chainB md ops n = true) (hn : n < ops.size) (hin : i < n) (hdone : ∀ ls a, L ls a → ∀ j ∈ Region.ready md ops ls, n ≤ j) :
    ∀ (f : Nat) (ls : Array Bool) (a : Act), HeadInv md ops n ls →
      (∀ j oj, ops[j]? = some oj → j ≠ i → ls.getD j true = false → (∀ e ∈ oj.after, Region.binds md e = true → e.on ≠ i) → oi.apart ops oj = true) →
      i ∈ Region.ready md ops ls → YieldsIn P ops C oi v a → headQ P md ops C n L f (ls.setIfInBounds i true) (a.put oi.dst v) → headQ P md ops C n L (f + 1) ls a := by
  have below : ∀ ls, HeadInv md ops n ls → i ∈ Region.ready md ops ls → ∀ j ∈ Region.ready md ops ls, j < n := fun ls inv hr j hj => by
    apply Nat.lt_of_not_le
    intro hge
    exact tail_waits hs hc hn inv _ i rfl hin (mem_ready.1 hr).1 j hge hj
  intro f
  induction f with
  | zero =>
    intro ls a inv _ hr hy H
    refine ⟨fun h => (by rw [h] at hr; cases hr), fun j hj => ⟨below ls inv hr j hj, ?_⟩⟩
    by_cases e : j = i
    · subst e; exact hy.qOp hi H
    · have h1 := hdone _ _ H j (ready_mono hj e)
      have h2 := below ls inv hr j hj
      omega
  | succ f ih =>
    intro ls a inv hfree hr hy H
    refine ⟨fun h => (by rw [h] at hr; cases hr), fun j hj => ⟨below ls inv hr j hj, ?_⟩⟩
    by_cases e : j = i
    · subst e; exact hy.qOp hi H
    · have hjn := below ls inv hr j hj
      have h1 := (H.2 j (ready_mono hj e)).2
      obtain ⟨hjun, oj, hoj, hall⟩ := mem_ready.1 hj
      have hno : ∀ d ∈ oj.after, Region.binds md d = true → d.on ≠ i := fun d hd hb he => by
        have h2 := hall d hd hb
        rw [he, getD_both (mem_ready.1 hr).1] at h2
        cases h2
      have h2 := qOp_put hoj (hfree j oj hoj e hjun hno) (fun cs b => hsel i oi cs b hi) (fun cs b => hsel j oj cs b hoj) hy h1
      refine qOp_mono (fun a' h3 => ih (ls.setIfInBounds j true) a' (inv.set hj hjn) (fun k ok hk hki hun hnk => hfree k ok hk hki ?_ hnk) (ready_mono hr (Ne.symm e)) h3.1 (by rw [Array.setIfInBounds_comm _ _ e]; exact h3.2)) h2
      by_cases hjk : j = k
      · subst hjk; exact hjun
      · rw [getD_set_ne true hjk] at hun; exact hun
theorem headQ_lex {n g : Nat} {Lq : Act → Prop} (hsel : Region.noSelect ops = true) (hs : Region.sinkB md ops n = true) (hc : Region.chainB md ops n = true) (hn : n < ops.size) :
    ∀ (l : List Oper) (k : Nat) (ls : Array Bool) (a : Act), (∀ j, j < l.length → l[j]? = ops[k + j]?) → k + l.length = n → HeadInv md ops n ls →
    Region.lexHead md ops g l.length k ls = true → wpQuiet P ops C Lq l a → headQ P md ops C n (fun ls' a' => Region.seqB md ops g n ls' = true ∧ Lq a') l.length ls a := by
  intro l
  induction l with
  | nil =>
    intro k ls a _ hk _ hB h
    have e : k = n := by simpa using hk
    subst e
    exact ⟨by simpa [Region.lexHead] using hB, h⟩
  | cons o l ih =>
    intro k ls a hl hk inv hB h
    have h0 : ops[k]? = some o := by simpa using (hl 0 (by simp)).symm
    simp only [List.length_cons, Region.lexHead, Bool.and_eq_true] at hB
    have hkn : k < n := by simp only [List.length_cons] at hk; omega
    have hr : k ∈ Region.ready md ops ls := by simpa using hB.1.1
    have hq : qOp P ops C k (wpQuiet P ops C Lq l) a := by unfold qOp; simp only [h0]; exact h
    obtain ⟨v, hy, hK⟩ := yieldsIn_of_qOp h0 hq
    refine headQ_first h0 (Region.noSelect_spec hsel) hs hc hn hkn (fun ls' a' hL => seqB_ready hL.1) l.length ls a inv (Region.free_spec h0 hB.1.2) hr hy ?_
    exact ih (k + 1) _ _ (fun j hj => by have := hl (j + 1) (by simp; omega); simpa [Nat.add_assoc, Nat.add_comm 1 j] using this) (by simp only [List.length_cons] at hk; omega) (inv.set hr hkn) hB.2 hK
end
theorem wp_region_quiet_tail {P : Program} {C : World → Prop} {id : Nat} {Q : Exit → Act → World → Prop} {a : Act} {w : World} {l : List Oper} (n : Nat) (hm : P.follows .mixedOrders = true) (hB : Region.lexTailB .any l.toArray n = true) (hC : C { w with drawn := w.drawn + 1 })
    (h : wpQuiet P l.toArray C (fun a' => ∀ w', C w' → wpList P l.toArray Q (l.drop n) a' w') (l.take n) a) : (Code.region id l.toArray true).wp P Q a w := by
  simp only [Region.lexTailB, Bool.and_eq_true, decide_eq_true_eq] at hB
  obtain ⟨⟨⟨⟨hsel, hn⟩, hs⟩, hc⟩, hlex⟩ := hB
  have hn' : n < l.length := by simpa using hn
  have ht : (l.take n).length = n := by rw [List.length_take]; omega
  have hd : (l.drop n).length = l.toArray.size - n := by simp
  have inv0 : HeadInv .any l.toArray n (Array.replicate l.toArray.size false) :=
    ⟨by simp, fun j oj _ hl => (by rw [getD_replicate_false] at hl; cases hl), fun t _ k => getD_in (by simpa using k) (getD_replicate_false _ _)⟩
  have H := headQ_lex (md := .any) (g := l.toArray.size - n) hsel hs hc hn (l.take n) 0 _ a (fun j hj => by
    have hj' : j < n := by rw [ht] at hj; exact hj
    simp [hj']) (by simpa using ht) inv0 (by rw [ht]; exact hlex) h
  refine wp_region_any hm ?_
  have := headQ_any (Q := Q) (g := l.toArray.size - n) (fun ls a' w' hw' hL => by
    have := wpAny_of_seq (md := .any) (Q' := Q) (l.drop n) n ls a' w' (fun j => by simp [List.getElem?_drop]) (by rw [hd]; exact hL.1) (hL.2 w' hw')
    rwa [hd] at this) _ _ _ _ hC H
  rw [ht, show n + (l.toArray.size - n) = l.toArray.size by omega] at this
  exact this
theorem wp_region_grow_tail {P : Program} {id : Nat} {Q : Exit → Act → World → Prop} {a : Act} {w : World} {l : List Oper} (n : Nat) (hm : P.follows .mixedOrders = true) (hB : Region.lexTailB .any l.toArray n = true)
    (h : wpQuiet P l.toArray (fun w' => ∃ s, w' = grow w s) (fun a' => ∀ w', Below w.heap.size w w' → wpList P l.toArray Q (l.drop n) a' w') (l.take n) a) : (Code.region id l.toArray true).wp P Q a w := by
  have e : (fun a' => ∀ w', Below w.heap.size w w' → wpList P l.toArray Q (l.drop n) a' w') = (fun a' => ∀ w', (∃ s, w' = grow w s) → wpList P l.toArray Q (l.drop n) a' w') := by
    funext a'
    exact propext ⟨fun h w' ⟨s, hs⟩ => h w' (hs ▸ s.below), fun h w' hb => h w' ⟨⟨w', hb⟩, rfl⟩⟩
  rw [e] at h
  exact wp_region_quiet_tail (C := fun w' => ∃ s, w' = grow w s) n hm hB ⟨⟨w.drew, (Below.refl _ _).drew⟩, rfl⟩ h
end Go.Proofs.YtbmaffijncapiaaGreatDoor

