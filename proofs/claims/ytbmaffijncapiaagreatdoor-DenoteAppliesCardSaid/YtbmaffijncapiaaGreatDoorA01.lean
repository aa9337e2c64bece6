/- Texts of this seat, laid together: Ints, Row, QRow, TxtR, MkA, QPc, RxS, DnK, DnT, DnU, DwN, DwG. What each theorem proves, and under which conditions, its statement says. -/
import Derived.Test.YtbmaffijncapiaaGreatDoorB25
import Derived.Laws.IdiomStrings
import Derived.Laws.BytesArg
import Derived.Deep.LoopGhost
import Derived.BigQuiet
set_option maxRecDepth 100000
set_option maxHeartbeats 32000000
set_option linter.unusedVariables false
set_option linter.unusedSimpArgs false
namespace Go.Proofs.YtbmaffijncapiaaGreatDoor
open Go.ChangeShapes Go.WideShapes Go.ChangeAt Go.RowKit
section
open Num
section
variable {R : World → Value → Int → Prop} {w w' : World} {b off n : Nat} {f f' : Nat → Int}
end
section
variable {R : World → Value → Int → Prop} {E : TypeId} {w0 wr w' : World} {v : Value} {n : Nat} {f : Nat → Int}
end
section
variable {P : Program} {T E : TypeId} {bytes : Nat} {R : World → Value → Int → Prop} {ops : Array Oper} {o : Oper} {a : Act} {Q : Exit → Act → World → Prop} {w0 wr : World} {v : Value} {n : Nat} {f : Nat → Int} {t : TypeId} {s x : Operand} {nb : Bool} {ad : Option Addr} {len c m cc : Nat} {z : Int}
end
theorem infoRef : (Tryz.prog.info? 56).map (fun i => (i.zero, i.size, i.bytes)) = some (some (.agg #[.bool false, .slice none 0 0]), 2, 32) := by kernel_rfl
theorem elRef : Elt Tryz.prog 54 56 2 32 := Elt.mk' Tryz.underlying54 infoRef rfl (by decide) (by decide)
end
section
open Num
section
variable {S : TypeId → Prop} {a b c w w' : World}
end
def RRow := IsRow IsRef 56
section
variable {R : World → Value → Int → Prop} {E : TypeId} {base : Nat} {w w' : World} {v : Value} {l : List Int}
theorem OwnF.row {w0 wr : World} (h : OwnF R E w0 wr v l.length (fun k => l.getD k 0)) : IsRow R E w0.heap.size wr v l := by
 obtain ⟨xs, ⟨⟨hl, h1⟩, hB⟩, h2⟩ := h
 rcases h1 with ⟨rfl, h0⟩ | ⟨g, cap, cur, rfl, hg, hh, hc, hm, hs, ht⟩
 · have : l = [] := List.length_eq_zero_iff.1 h0
   subst this
   exact IsRow.nil R E _ _
 · refine ⟨_, cap, rfl, hc, hm, .inr ⟨g, 0, rfl, hg, by unfold typOf; rw [hh], fun k hk => ?_⟩⟩
   obtain ⟨nb, a, len, c, k1, k2, k3⟩ := h2 k hk
   have cel : ∀ j u, xs[j]? = some u → wr.cell? ⟨g, j, none⟩ = some u := fun j u hj => by
    have hj2 : j < l.length * 2 := by have := (List.getElem?_eq_some_iff.1 hj).1; omega
    rw [← ht, List.getElem?_take_of_lt (by omega)] at hj
    simpa [World.cell?, hh] using hj
   exact ⟨nb, a, len, c, by rw [Nat.zero_add]; exact cel _ _ k1, by rw [Nat.zero_add]; exact cel _ _ k2, k3⟩
end
section
variable {R : World → Value → Int → Prop} {E T : TypeId} {base : Nat} {w w' : World} {v : Value} {g : List (List Int)}
end
section
variable {R : World → Value → Int → Prop} {E T : TypeId} {base : Nat} {w0 wr w' : World} {v : Value} {g : List (List Int)}
end
section
variable {P : Program} {TT T E : TypeId} {base bytes : Nat} {R : World → Value → Int → Prop} {ops : Array Oper} {o : Oper} {a : Act} {Q : Exit → Act → World → Prop} {w0 wr : World} {v u : Value} {g : List (List Int)} {l : List Int} {t : TypeId} {s x : Operand} {cc : Nat}
end
end
section
open Num
section
variable {Q : World → Value → Rat → Prop} {w w' : World} {b o : Nat} {q : Rat}
end
section
variable {Q : World → Value → Rat → Prop} {E : TypeId} {base base' : Nat} {w w' w0 wr : World} {v : Value} {L : List Rat}
theorem FrRow.nil (Q : World → Value → Rat → Prop) (E : TypeId) (base : Nat) (w : World) : FrRow Q E base w (.slice none 0 0) [] := ⟨none, 0, rfl, Nat.le_refl _, .inl rfl⟩
end
section
variable {Q : World → Value → Rat → Prop} {E : TypeId} {w0 wr w' : World} {v : Value} {L : List Rat}
end
section
variable {P : Program} {T E : TypeId} {bytes : Nat} {Q : World → Value → Rat → Prop} {ops : Array Oper} {o : Oper} {a : Act} {Z : Exit → Act → World → Prop} {w0 wr : World} {v : Value} {L : List Rat} {t : TypeId} {s x : Operand} {n1 n2 : Bool} {a1 a2 : Option Addr} {l1 c1 l2 c2 cc : Nat} {q : Rat}
end
section
variable {Q : World → Value → Rat → Prop} {E : TypeId} {w w' : World} {b n : Nat} {F G : Nat → Rat}
end
end
end Go.Proofs.YtbmaffijncapiaaGreatDoor
namespace Go.Proofs.YtbmaffijncapiaaGreatDoor
open Num
open Go.ChangeShapes Go.WideShapes Go.ChangeAt Go.RowKit
def Own8 (w0 wr : World) (v : Value) (L : List UInt8) : Prop := OwnE 5 1 w0 wr v L.length (Lib.byteCells L)
theorem Own8.below {w0 wr w' : World} {v : Value} {L : List UInt8} (h : Own8 w0 wr v L) (hb : Below wr.heap.size wr w') : Own8 w0 w' v L := OwnE.below h hb
theorem Own8.nil {w0 wr : World} (hb : Below w0.heap.size w0 wr) : Own8 w0 wr (.slice none 0 0) [] := OwnE.nil _ _ hb
theorem bcells_one (l : List UInt8) : ∀ v ∈ Lib.byteCells l, v.oneCell' = true := by
 intro v hv; simp only [Lib.byteCells, List.mem_map] at hv; obtain ⟨x, _, rfl⟩ := hv; rfl
theorem Own8.ex {w0 wr : World} {v : Value} {L : List UInt8} (h : Own8 w0 wr v L) : (v = .slice none 0 0 ∧ L = []) ∨ ∃ g cap, v = .slice (some ⟨g, 0, none⟩) L.length cap ∧ w0.heap.size ≤ g ∧ L.length ≤ cap := by
 obtain ⟨⟨h0, h⟩, _⟩ := h
 rcases h with ⟨rfl, h1⟩ | ⟨g, cap, cur, rfl, hg, _, hc, _⟩
 · exact .inl ⟨rfl, List.length_eq_zero_iff.1 h1⟩
 · exact .inr ⟨g, cap, rfl, hg, hc⟩
theorem Own8.shape {w0 wr : World} {v : Value} {L : List UInt8} (h : Own8 w0 wr v L) : ∃ a c, v = .slice a L.length c := by
 rcases h.ex with ⟨rfl, rfl⟩ | ⟨g, cap, rfl, _⟩
 · exact ⟨none, 0, rfl⟩
 · exact ⟨_, _, rfl⟩
theorem Own8.cell {w0 wr : World} {g cap : Nat} {L : List UInt8} (h : Own8 w0 wr (.slice (some ⟨g, 0, none⟩) L.length cap) L) (k : Nat) (hk : k < L.length) : wr.cell? ⟨g, k, none⟩ = some (.int .u8 ((L.getD k 0).toNat : Nat)) := by
 rw [World.ownsRow.cellAt h.1 k (by omega), bcells_get L k hk]
theorem Own8.frozen {w0 wr : World} {g cap : Nat} {L : List UInt8} (h : Own8 w0 wr (.slice (some ⟨g, 0, none⟩) L.length cap) L) (k : Nat) : wr.frozen? ⟨g, k, none⟩ = false := World.ownsRow.frozenAt h.1 k
theorem Own8.set {w0 wr : World} {g cap : Nat} {L : List UInt8} (h : Own8 w0 wr (.slice (some ⟨g, 0, none⟩) L.length cap) L) (k : Nat) (x : UInt8) (hg : w0.heap.size ≤ g) : Own8 w0 (wr.setCell ⟨g, k, none⟩ (.int .u8 (x.toNat : Nat))) (.slice (some ⟨g, 0, none⟩) L.length cap) (L.set k x) := by
 obtain ⟨⟨hl, h1⟩, hB⟩ := h
 rcases h1 with ⟨h2, _⟩ | ⟨g', cap', cur, h2, hg', hh, hc, hm, hs, ht⟩
 · cases h2
 · cases h2
   refine ⟨⟨by simp [Lib.byteCells], .inr ⟨g, cap, cur.setIfInBounds k (.int .u8 (x.toNat : Nat)), by simp, hg', ?_, by simpa using hc, hm, by simpa using hs, ?_⟩⟩, bset hB (by exact hg) _⟩
   · unfold World.setCell
     simp only [Array.getElem?_modify, if_true]
     rw [hh]; rfl
   · rw [Array.toList_setIfInBounds, List.length_set, List.take_set, ht]
     simp [Lib.byteCells, List.map_set]
theorem Own8.str {w0 wr : World} {a : Option Addr} {c : Nat} {L : List UInt8} (h : Own8 w0 wr (.slice a L.length c) L) : (convert 173 9 (.slice a L.length c)).run Tryz.prog wr = .ok (.string ⟨L.toArray⟩) wr := by
 rcases h.ex with ⟨h1, h2⟩ | ⟨g, cap, h1, _⟩
 · subst h2
   cases h1
   exact run_convert_bytes_nil wr 173 5 Tryz.underlying173 Tryz.underlying5 0 0 9 Tryz.underlying9
 · cases h1
   refine run_convert_bytes_back wr 173 9 5 ⟨g, 0, none⟩ c L Tryz.underlying173 Tryz.underlying5 Tryz.underlying9 fun j hj => ?_
   have := h.cell j hj
   unfold Addr.add
   split
   · subst_vars; simpa [hj] using this
   · simpa [hj] using this
theorem app8 {ops : Array Oper} {rest : List Oper} {o : Oper} {a : Act} {Q : Exit → Act → World → Prop} {w0 wr : World} {v : Value} {L X : List UInt8} {t : TypeId} (hgd : o.guard = none) {s x : Operand}
 (ho : o.op = .call { callee := .builtin .append, args := #[s, x], argTypes := #[173, 173] }) (hO : Own8 w0 wr v L) (hs : a.eval s = v)
 {c : Nat} (hx : a.eval x = .slice (some ⟨wr.heap.size, 0, none⟩) X.length c) (hn : L.length + X.length ≤ 1099511627776)
 (h : ∀ v' w', Own8 w0 w' v' (L ++ X) → Lim wr w' → Out (fun k => v.ownBlock = some k) wr w' → wpList Tryz.prog ops Q rest (a.put o.dst v') w') : wpList Tryz.prog ops Q (o :: rest) a (wr.alloc (.cells (Lib.byteCells X).toArray t)) := by
 obtain ⟨i, z, hi, hz, hsize, hby, hzs⟩ := el8.info
 refine wpList_append_own _ hgd s x 173 ho w0.heap.size 5 i z 1 1 el8.ht hi hz hsize hby hzs el8.pos v L.length (Lib.byteCells L) hs (hO.1.alloc _) ⟨wr.heap.size, 0, none⟩ X.length c (Lib.byteCells X) hx (by rw [Lib.byteCells_length, Nat.mul_one]) (cells_new wr _ t) (bcells_one X) (by unfold maxLen; omega) (by omega) (by have := hO.2.size; simp; omega) ?_
 intro v' w' hown hg _
 have hl : Lim wr w' := ((Lim.refl wr).alloc _).grown hg fun g hg' ht => (by decide : 5 ≠ 177) (by
  rw [typ_keep (own_typ hO hg') (bal (Below.refl _ _) _)] at ht
  exact Option.some.inj ht)
 exact h v' w' ⟨by rw [bcells_app, List.length_append]; exact hown, below_append (wr := wr) (bal hO.2 _) (hO.1.alloc _) hg⟩ hl (((Out.refl _ wr).alloc _).grown hg fun k hk _ => hk)
namespace Num
theorem turned_len (T : List UInt8) (i : Nat) : (turned T i).length = T.length := by simp [turned]
theorem turned_get (T : List UInt8) (i j : Nat) (h : j < T.length) : (turned T i).getD j 0 = if j < i ∨ T.length - 1 - j < i then T.getD (T.length - 1 - j) 0 else T.getD j 0 := by
 simp [turned, h]
theorem turned_zero (T : List UInt8) : turned T 0 = T := by
 apply List.ext_getElem
 · simp [turned]
 · intro j h1 h2
   simp [turned, h2]
theorem turned_step {T : List UInt8} {i : Nat} (h : i < T.length / 2) : ((turned T i).set i ((turned T i).getD (T.length - 1 - i) 0)).set (T.length - 1 - i) ((turned T i).getD i 0) = turned T (i + 1) := by
 have e1 : (turned T i).getD i 0 = T.getD i 0 := by rw [turned_get T i i (by omega), if_neg (by omega)]
 have e2 : (turned T i).getD (T.length - 1 - i) 0 = T.getD (T.length - 1 - i) 0 := by rw [turned_get T i _ (by omega), if_neg (by omega)]
 rw [e1, e2]
 apply List.ext_getElem
 · simp [turned]
 · intro j h1 h2
   have hj : j < T.length := by simpa [turned] using h2
   rw [List.getElem_set, List.getElem_set]
   simp only [turned, List.getElem_map, List.getElem_range]
   by_cases h3 : T.length - 1 - i = j
   · rw [if_pos h3, if_pos (by omega)]; congr 1; omega
   · rw [if_neg h3]
     by_cases h4 : i = j
     · rw [if_pos h4, if_pos (by omega), h4]
     · rw [if_neg h4]
       by_cases h5 : j < i ∨ T.length - 1 - j < i
       · rw [if_pos h5, if_pos (by omega)]
       · rw [if_neg h5, if_neg (by omega)]
theorem turned_end (T : List UInt8) {i : Nat} (h : T.length / 2 ≤ i) : turned T i = T.reverse := by
 apply List.ext_getElem
 · simp [turned]
 · intro j h1 h2
   have hj : j < T.length := by simpa [turned] using h1
   simp only [turned, List.getElem_map, List.getElem_range, List.getElem_reverse]
   by_cases h5 : j < i ∨ T.length - 1 - j < i
   · rw [if_pos h5]; simp [show T.length - 1 - j < T.length by omega]
   · rw [if_neg h5]
     have e : T.length - 1 - j = j := by omega
     simp only [e]; simp [hj]
theorem intTxt_zero : intTxt 0 = [48] := by simp [intTxt, natTxt]
theorem intTxt_sg {neg : Bool} {V : Nat} (hV : 0 < V) : intTxt (sg neg V) = ((lowD V).map dig ++ (if neg then [45] else [])).reverse := by
 unfold intTxt natTxt
 rw [sg_abs, if_neg (by omega : ¬ V = 0), asc_eq]
 cases neg with
 | true => rw [if_pos (by simp [sg]; omega)]; simp
 | false => rw [if_neg (by simp [sg])]; simp
end Num


theorem rtext_c (vx : Value) (x : Int) (k : Nat) (w : World) (hx : IsRef w vx x) (bx : Bd k x) (hk : k ≤ 1073741824) :
 Calls Tryz.prog 29 #[vx] w fun e w' => e = .returned (.string ⟨(intTxt x).toArray⟩) ∧ Below w.heap.size w w' := by
 obtain ⟨n1, a1, c1, l1, rfl, u1, q1, g1, s1, rfl⟩ := hx
 have k1 : l1.length ≤ 67108865 := by
  by_cases h0 : l1 = []
  · subst h0; simp
  · have h1 := NumR.nrm_val_pos g1 h0
    rw [NumR.BB_pow] at h1
    have h2 : 16 * (l1.length - 1) < k := (Nat.pow_lt_pow_iff_right (a := 2) (by omega)).1 (Nat.lt_of_le_of_lt h1 (rsg_bd bx))
    omega
 have HX := hZ (And.intro s1 bx)
 have HPL := hZ (show (lowD (NumR.val l1)).length ≤ 1073741824 from Nat.le_trans (lowD_len k _ (rsg_bd bx)) hk)
 clear bx s1
 unfold iv
 have hB := Below.refl w.heap.size w
 go_enter Tryz.func29, Tryz.ntmps29
 go_wp2
 refine wp_name fun w0 hW0 => ?_
 have x0 : w0.cell? ⟨w.heap.size, 0, none⟩ = some (.bool n1) := bkn hW0
 have zx0 := cell_lt x0
 have x1 : w0.cell? ⟨w.heap.size, 1, none⟩ = some (.slice a1 l1.length c1) := bkn hW0
 have hB : Below w.heap.size w w0 := by rw [hW0]; repeat (first|exact bzR _ _|exact hB|refine bzD ?_|refine bzN ?_|refine bzS ?_|refine bzA ?_)
 have hz := hB.size
 clear hW0
 have hu0 := u1.keep hB
 go_loopg [3, 4] (NumR.val l1) (fun gk d v wr => ∃ (P : List Nat) (ad : Option Addr) (cd : Nat) (L : List Nat), v = .slice ad L.length cd ∧ U32 wr ad cd L ∧ NumR.Limbs L ∧ Nrm L ∧ L.length ≤ 67108865 ∧ gk = NumR.val L ∧ Own8 w0 wr d (P.map dig) ∧ lowD (NumR.val l1) = P ++ lowD (NumR.val L))
 case atStart => exact ⟨[], a1, c1, l1, rfl, hu0, q1, g1, k1, rfl, Own8.nil (Below.refl _ _), rfl⟩
 case round =>
  obtain ⟨P, ad, cd, L, rfl, hu, hl, hn, hlm, hgk, hO, hP⟩ := hrel
  have HP := hZ (And.intro hgk hP)
  clear hgk hP
  have hPl : P.length ≤ 1073741824 := by have h1 := congrArg List.length HP.out.2; have h2 := HPL.out; rw [h1, List.length_append] at h2; omega
  have hPm : (P.map dig).length ≤ 1073741824 := by simpa using hPl
  by_cases hL : 0 < L.length
  · have hLz : (0 : Int) < (L.length : Int) := by omega
    have hv0 : 0 < NumR.val L := by
     have h1 := NumR.nrm_val_pos hn (List.length_pos_iff.1 hL)
     have : 0 < NumR.BB ^ (L.length - 1) := Nat.pow_pos NumR.BB_pos
     omega
    have dc := fun (g : Nat) (W : World) (h : Below wr.heap.size wr W) (hg : g = W.heap.size) => rdivide_c ad (some ⟨g, 0, none⟩) cd 1 L [10] (W.alloc (.cells (cel [10]).toArray 177)) (hu.keep (bal h _)) ((blk_at hg).u32 (fun x hx => by simp at hx; subst hx; unfold BB; omega) (by simp [maxLen])) hl (fun x hx => by simp at hx; subst hx; unfold NumR.BB; omega) hn (fun _ => by simp) (by simp [NumR.val]) (by omega) (by simp)
    rw [show NumR.val [10] = 10 by simp [NumR.val]] at dc
    simp only [List.length_cons, List.length_nil, Nat.zero_add] at dc
    go_wp2_with fail
    refine (dc _ _ (Below.refl _ _) rfl).mono ?_
    rintro e w2 ⟨⟨u, v, rfl, hq, hr⟩, hb2⟩
    have hO2 := hO.below (bthen (bal (Below.refl _ _) _) hb2)
    clear dc hO hu
    obtain ⟨aq, cq, Lq, rfl, hqu, hql, hqn, hqv⟩ := hq
    obtain ⟨ar, cr, Lr, rfl, hru, hrl, hrn, hrv⟩ := hr
    have hLqm : Lq.length ≤ 67108865 := by
     apply Nat.le_trans _ hlm
     apply Nat.le_of_not_lt; intro h
     have := NumR.val_lt_of_len hl hqn h
     omega
    have HV := hZ (And.intro hqv hrv)
    have HN := hZ (show lowD (NumR.val L) = NumR.val L % 10 :: lowD (NumR.val L / 10) from lowD_pos hv0)
    have HLT := hZ (show NumR.val L / 10 < NumR.val L by omega)
    clear hqv
    by_cases hc : NumR.val L % 10 = 0
    · obtain rfl : Lr = [] := (NumR.val_nil_iff hrn).1 (by rw [hrv]; exact hc)
      have HC := hZ hc
      clear hc hrv
      go_wp2_with (at_builtin; refine app8 (X := [48]) rfl rfl hO2 rfl rfl ?_ ?_; (simp; omega); intro v' w3 hO3 hlim3 _)
      go_roundg (NumR.val L / 10)
      case measure => rw [HP.out.1]; exact HLT.out
      case rel => exact ⟨P ++ [0], aq, cq, Lq, rfl, hqu.lim hlim3, hql, hqn, hLqm, HV.out.1.symm, by simpa [show dig 0 = 48 from rfl] using hO3, by rw [HV.out.1, HP.out.2, HN.out, HC.out]; simp⟩
    · obtain ⟨c, rfl⟩ : ∃ c, Lr = [c] := by
       apply List.length_eq_one_iff.1
       have h1 : Lr ≠ [] := by intro e; subst e; apply hc; rw [← hrv]; rfl
       have h2 := NumR.nrm_val_pos hrn h1
       have h3 := List.length_pos_iff.2 h1
       have h4 : Lr.length - 1 = 0 := by
        apply Nat.eq_zero_of_not_pos; intro h
        have h5 : NumR.BB ^ 1 ≤ NumR.BB ^ (Lr.length - 1) := Nat.pow_le_pow_right NumR.BB_pos h
        have h6 : NumR.val L % 10 < 10 := Nat.mod_lt _ (by omega)
        unfold NumR.BB at *
        omega
       omega
      have hce : c = NumR.val L % 10 := by rw [← hrv]; simp [NumR.val]
      rcases hru.2.2.2 with h0 | ⟨br, or', rfl, hcr⟩
      · cases h0
      have c0 := hcr 0 (by simp)
      simp only [List.getD_cons_zero, Nat.add_zero] at c0
      have hc10' : c < 10 := by omega
      have HC := hZ hce
      clear hc hce hrv hcr hru
      -- the digit c is put on
      have hc10 : c < 10 := by omega
      obtain ⟨bb, hbb⟩ : ∃ bb, bb = dig (c) := ⟨_, rfl⟩
      have hb1 : (48 : Int) + ((c : Nat) : Int) = (bb.toNat : Int) := by rw [hbb, dig_nat hc10]; omega
      have hb2 : (bb.toNat : Int) % 256 = (bb.toNat : Int) := by have := bb.toNat_lt; omega
      have hb3 : IntKind.u32.wrap (bb.toNat : Int) = (bb.toNat : Int) := w32 (by have := bb.toNat_lt; unfold BB; omega)
      have HBB := hZ hbb
      clear hbb
      go_wp2_with (at_builtin; refine app8 (X := [bb]) rfl rfl hO2 rfl rfl ?_ ?_; (simp; omega); intro v' w3 hO3 hlim3 _)
      go_roundg (NumR.val L / 10)
      case measure => rw [HP.out.1]; exact HLT.out
      case rel => exact ⟨P ++ [c], aq, cq, Lq, rfl, hqu.lim hlim3, hql, hqn, hLqm, HV.out.1.symm, by rw [HBB.out] at hO3; simpa using hO3, by rw [HV.out.1, HP.out.2, HN.out, HC.out]; simp⟩
  · obtain rfl : L = [] := List.length_eq_zero_iff.1 (by omega)
    have hPN := HP.out.2
    rw [show NumR.val [] = 0 from rfl, lowD_zero, List.append_nil] at hPN
    have x0w := x0
    have hB2 := bthen hB hO.2
    have y0 := bkeep hO.2 x0
    by_cases hP0 : P = []
    · subst hP0
      have hN0 : NumR.val l1 = 0 := by
       apply Nat.eq_zero_of_not_pos; intro h
       exact lowD_ne h hPN
      have HE := hZ (show intTxt (sg n1 (NumR.val l1)) = [48] by rw [hN0]; cases n1 <;> simp [sg, intTxt_zero])
      obtain ⟨a9, c9, rfl⟩ := hO.shape
      clear hPN hN0 hu hO
      simp only [List.map_nil, List.length_nil]
      go_wp2
      go_ret
      exact ⟨by rw [HE.out]; rfl, hB2⟩
    · have hN0 : 0 < NumR.val l1 := by
       apply Nat.pos_of_ne_zero; intro h
       rw [h, lowD_zero] at hPN
       exact hP0 hPN.symm
      have HE := hZ (show intTxt (sg n1 (NumR.val l1)) = (P.map dig ++ (if n1 then [45] else [])).reverse by rw [intTxt_sg hN0, hPN])
      have hPz : (((P.map dig).length : Int) == 0) = false := by rw [beq_eq_false_iff_ne]; simp; exact hP0
      obtain ⟨a8, c8, rfl⟩ := hO.shape
      clear hPN hN0 hu hP0
      cases n1 with
      | true =>
       simp only [if_true] at HE
       generalize P.map dig = S at *
       go_wp2_with (at_builtin; refine app8 (X := [45]) rfl rfl hO rfl rfl ?_ ?_; (simp; omega); intro v' w3 hO3 _ _; (obtain ⟨a8, c8, rfl⟩ := hO3.shape); (have hTm : (S ++ [45]).length ≤ 1073741825 := by simp; omega); clear hO; generalize S ++ [45] = T at *)
       go_loopw [8] (fun x wi => ∃ i : Nat, i ≤ T.length / 2 ∧ x = .int .i64 i ∧ Own8 w0 wi (.slice a8 T.length c8) (turned T i)) (fun x _ => T.length / 2 - (intOf x).toNat)
       case atStart => exact ⟨0, Nat.zero_le _, rfl, by rw [turned_zero]; exact hO3⟩
       case round =>
        rename World => wi
        obtain ⟨i, hi, rfl, hOi⟩ := hrel
        have hlen := turned_len T i
        by_cases hlt : i < T.length / 2
        · have hltz : (i : Int) < (T.length : Int) / 2 := by omega
          have hltz2 : (i : Int) < (T.length : Int).tdiv 2 := by rw [Int.tdiv_eq_ediv_of_nonneg (by omega)]; exact hltz
          have hOi' := hOi
          rw [← hlen] at hOi'
          rcases hOi'.ex with ⟨h0, hT⟩ | ⟨g, cap, hv, hg, hcap⟩
          · exfalso; rw [hT] at hlen; simp at hlen; omega
          cases hv
          obtain ⟨j, hj⟩ : ∃ j, j = T.length - 1 - i := ⟨_, rfl⟩
          have q0 := hOi'.cell i (by omega)
          have q1 := hOi'.cell j (by omega)
          have qf := hOi'.frozen i
          have qg := hOi'.frozen j
          have HS := hZ (turned_step hlt)
          rw [← hj] at HS
          have hO4 := hOi'.set i ((turned T i).getD j 0) hg
          have hO5 := (show Own8 w0 _ (.slice (some ⟨g, 0, none⟩) ((turned T i).set i ((turned T i).getD j 0)).length c8) _ by rw [List.length_set]; exact hO4).set j ((turned T i).getD i 0) hg
          rw [HS.out, List.length_set, hlen] at hO5
          have HO5 := hZ hO5
          have g1 : (T.length : Int) - 1 - (i : Int) = (j : Int) := by omega
          have g2 : IntKind.i64.wrap ((T.length : Int) - 1) = (T.length : Int) - 1 := by rw [IntKind.wrap_i64]; omega
          have g3 : IntKind.i64.wrap ((T.length : Int) - 1 - (i : Int)) = (j : Int) := by rw [IntKind.wrap_i64]; omega
          have hji : i ≠ j := by omega
          have hij : j ≠ i := by omega
          have hiT : (i : Int) < (T.length : Int) := by omega
          have hjT : (j : Int) < (T.length : Int) := by omega
          clear hO4 hO5 hOi hOi' hlen hj
          generalize (turned T i).getD j 0 = bj at *
          generalize (turned T i).getD i 0 = bi at *
          go_wp2
          go_region
          all_goals
           go_wp2
           refine ⟨⟨i + 1, by omega, by go_num, ?_⟩, by simp [intOf] <;> omega⟩
           exact ⟨HO5.out.1, HO5.out.2.drew⟩
        · have HO := hZ (show Own8 w0 wi (.slice a8 T.length c8) T.reverse by rw [← turned_end T (i := i) (Nat.le_of_not_lt hlt)]; exact hOi)
          have hcv := (show Own8 w0 wi (.slice a8 T.reverse.length c8) T.reverse by rw [List.length_reverse]; exact HO.out).str
          rw [List.length_reverse, ← HE.out] at hcv
          have hB9 := bthen hB HO.out.2
          have hltz : ¬ (i : Int) < (T.length : Int) / 2 := by omega
          have hltz2 : ¬ (i : Int) < (T.length : Int).tdiv 2 := by rw [Int.tdiv_eq_ediv_of_nonneg (by omega)]; exact hltz
          clear hOi hlen
          go_wp2
          go_ret
          exact ⟨rfl, hB9⟩
      | false =>
       simp only [Bool.false_eq_true, if_false, List.append_nil] at HE
       generalize P.map dig = T at *
       have hTm : T.length ≤ 1073741825 := by omega
       have hO3 := hO
       clear hO
       go_wp2
       go_loopw [8] (fun x wi => ∃ i : Nat, i ≤ T.length / 2 ∧ x = .int .i64 i ∧ Own8 w0 wi (.slice a8 T.length c8) (turned T i)) (fun x _ => T.length / 2 - (intOf x).toNat)
       case atStart => exact ⟨0, Nat.zero_le _, rfl, by rw [turned_zero]; exact hO3⟩
       case round =>
        rename World => wi
        obtain ⟨i, hi, rfl, hOi⟩ := hrel
        have hlen := turned_len T i
        by_cases hlt : i < T.length / 2
        · have hltz : (i : Int) < (T.length : Int) / 2 := by omega
          have hltz2 : (i : Int) < (T.length : Int).tdiv 2 := by rw [Int.tdiv_eq_ediv_of_nonneg (by omega)]; exact hltz
          have hOi' := hOi
          rw [← hlen] at hOi'
          rcases hOi'.ex with ⟨h0, hT⟩ | ⟨g, cap, hv, hg, hcap⟩
          · exfalso; rw [hT] at hlen; simp at hlen; omega
          cases hv
          obtain ⟨j, hj⟩ : ∃ j, j = T.length - 1 - i := ⟨_, rfl⟩
          have q0 := hOi'.cell i (by omega)
          have q1 := hOi'.cell j (by omega)
          have qf := hOi'.frozen i
          have qg := hOi'.frozen j
          have HS := hZ (turned_step hlt)
          rw [← hj] at HS
          have hO4 := hOi'.set i ((turned T i).getD j 0) hg
          have hO5 := (show Own8 w0 _ (.slice (some ⟨g, 0, none⟩) ((turned T i).set i ((turned T i).getD j 0)).length c8) _ by rw [List.length_set]; exact hO4).set j ((turned T i).getD i 0) hg
          rw [HS.out, List.length_set, hlen] at hO5
          have HO5 := hZ hO5
          have g1 : (T.length : Int) - 1 - (i : Int) = (j : Int) := by omega
          have g2 : IntKind.i64.wrap ((T.length : Int) - 1) = (T.length : Int) - 1 := by rw [IntKind.wrap_i64]; omega
          have g3 : IntKind.i64.wrap ((T.length : Int) - 1 - (i : Int)) = (j : Int) := by rw [IntKind.wrap_i64]; omega
          have hji : i ≠ j := by omega
          have hij : j ≠ i := by omega
          have hiT : (i : Int) < (T.length : Int) := by omega
          have hjT : (j : Int) < (T.length : Int) := by omega
          clear hO4 hO5 hOi hOi' hlen hj
          generalize (turned T i).getD j 0 = bj at *
          generalize (turned T i).getD i 0 = bi at *
          go_wp2
          go_region
          all_goals
           go_wp2
           refine ⟨⟨i + 1, by omega, by go_num, ?_⟩, by simp [intOf] <;> omega⟩
           exact ⟨HO5.out.1, HO5.out.2.drew⟩
        · have HO := hZ (show Own8 w0 wi (.slice a8 T.length c8) T.reverse by rw [← turned_end T (i := i) (Nat.le_of_not_lt hlt)]; exact hOi)
          have hcv := (show Own8 w0 wi (.slice a8 T.reverse.length c8) T.reverse by rw [List.length_reverse]; exact HO.out).str
          rw [List.length_reverse, ← HE.out] at hcv
          have hB9 := bthen hB HO.out.2
          have hltz : ¬ (i : Int) < (T.length : Int) / 2 := by omega
          have hltz2 : ¬ (i : Int) < (T.length : Int).tdiv 2 := by rw [Int.tdiv_eq_ediv_of_nonneg (by omega)]; exact hltz
          clear hOi hlen
          go_wp2
          go_ret
          exact ⟨rfl, hB9⟩
end Go.Proofs.YtbmaffijncapiaaGreatDoor
namespace Go.Proofs.YtbmaffijncapiaaGreatDoor
open Go.ChangeShapes Go.WideShapes Go.ChangeAt Go.RowKit
section
open Num
attribute [local go_sem ↓] Go.wp_at_zero Go.wp_at_succ
theorem ba_one (a : List UInt8) (x : UInt8) : (⟨a.toArray⟩ : ByteArray) ++ ⟨#[x]⟩ = ⟨(a ++ [x]).toArray⟩ := by
 apply ByteArray.ext
 simp [ByteArray.data_append]
end
section
open Num
attribute [local go_sem ↓] Go.wp_at_zero Go.wp_at_succ
theorem rqIsWhole_c (v : Value) (x : Rat) (w : World) (hx : IsQR w v x) : Calls Tryz.prog 170 #[v] w fun e w' => e = .returned (.bool (decide (x.den = 1))) ∧ Below w.heap.size w w' := by
 obtain ⟨n1, a1, l1, c1, n2, a2, l2, c2, rfl, h1, h2⟩ := hx
 have OC := hZ (fun V => rof_c 1 V (by decide) (by decide))
 have SM := hZ (fun v V (q : Below w.heap.size w V) (hv : IsRef V v 1) => rsame_c (.agg #[.bool n2, .slice a2 l2 c2]) v _ _ V (h2.keep q) hv)
 have hb : decide ((x.den : Int) = 1) = decide (x.den = 1) := by
  by_cases e : x.den = 1
  · simp [e]
  · rw [decide_eq_false e, decide_eq_false (by omega)]
 rw [hb] at SM
 obtain ⟨b, hbE⟩ : ∃ b, decide (x.den = 1) = b := ⟨_, rfl⟩
 rw [hbE] at SM ⊢
 clear h1 h2 hb hbE
 have hB := Below.refl w.heap.size w
 go_enter Tryz.func170, Tryz.ntmps170
 go_wp2
 refine wp_name fun w5 hW5 => ?_
 have HB5 := hZ (show Below w.heap.size w w5 by rw [hW5]; repeat (first|exact bzR _ _|exact hB|refine bzD ?_|refine bzN ?_|refine bzS ?_|refine bzA ?_))
 have x2 : w5.cell? ⟨w.heap.size, 2, none⟩ = some (.bool n2) := by rw [hW5]; simp [go_sem]
 have x3 : w5.cell? ⟨w.heap.size, 3, none⟩ = some (.slice a2 l2 c2) := by rw [hW5]; simp [go_sem]
 have HS := hZ (show ∀ V, Below w5.heap.size w5 V → V.cell? ⟨w.heap.size, 2, none⟩ = some (.bool n2) ∧ V.cell? ⟨w.heap.size, 3, none⟩ = some (.slice a2 l2 c2) from fun V q => ⟨bkeep q x2, bkeep q x3⟩)
 have hBw := Below.refl w5.heap.size w5
 have zx := cell_lt x2
 clear hW5 hB
 go_region_held3 (fun V => V.cell? ⟨w.heap.size, 2, none⟩ = some (.bool n2) ∧ V.cell? ⟨w.heap.size, 3, none⟩ = some (.slice a2 l2 c2))
  (first | (refine HS.out _ ?_; (repeat (first|exact bzR _ _|exact hBw|refine bzD ?_|refine bzN ?_|refine bzS ?_|refine bzA ?_)); done) | fail)
  (first
   | (go_at_call 31; refine (OC.out _).mono ?_; rintro e w6 ⟨⟨u6, rfl, hu6⟩, hb6⟩; (replace hBw : Below w5.heap.size w5 w6 := bthen bZ hb6); have HU6 := hZ hu6; have hy6 := Below.refl w6.heap.size w6; obtain ⟨pn, pa, pl, pc, rfl⟩ := hu6.litR)
   | (go_at_call 133; refine (SM.out _ _ (bthen HB5.out ?_) (HU6.out.keep ?_)).mono ?_; (repeat (first|exact bzR _ _|exact hBw|refine bzD ?_|refine bzN ?_|refine bzS ?_|refine bzA ?_)); (repeat (first|exact bzR _ _|exact hy6|refine bzD ?_|refine bzN ?_|refine bzS ?_|refine bzA ?_)); rintro e w7 ⟨rfl, hb7⟩; (replace hBw : Below w5.heap.size w5 w7 := bthen bZ hb7))
   | fail)
 all_goals
  have hBf := bthen HB5.out hBw
  clear HS x2 x3
  go_wp2
  go_ret
  exact ⟨rfl, bZ⟩
theorem rqText_c (v : Value) (x : Rat) (k : Nat) (w : World) (hx : IsQR w v x) (bx : BdQ k x) (hk : k ≤ 1000000000) : Calls Tryz.prog 81 #[v] w fun e w' => e = .returned (.string ⟨(qTxt x).toArray⟩) ∧ Below w.heap.size w w' := by
 have WC := hZ (fun V (q : Below w.heap.size w V) => rqIsWhole_c v x V (hx.keep q))
 obtain ⟨n1, a1, l1, c1, n2, a2, l2, c2, rfl, h1, h2⟩ := hx
 have TC := hZ (fun V (q : Below w.heap.size w V) => rtext_c (.agg #[.bool n1, .slice a1 l1 c1]) _ k V (h1.keep q) bx.1 (by omega))
 have TD := hZ (fun V (q : Below w.heap.size w V) => rtext_c (.agg #[.bool n2, .slice a2 l2 c2]) _ k V (h2.keep q) bx.2 (by omega))
 have hl1 := intTxt_len bx.1
 have hl2 := intTxt_len bx.2
 have hB := Below.refl w.heap.size w
 by_cases hd : x.den = 1
 · rw [qTxt_one hd]
   rw [decide_eq_true hd] at WC
   obtain ⟨T, hT⟩ : ∃ T, intTxt x.num = T := ⟨_, rfl⟩
   rw [hT] at TC ⊢
   clear h1 h2 bx hd TD hl1 hl2 hT
   go_enter Tryz.func81, Tryz.ntmps81
   go_wp2_with fail
   (with_reducible refine (WC.out _ ?_).mono ?_); (repeat (first|exact bzR _ _|exact hB|refine bzD ?_|refine bzN ?_|refine bzS ?_|refine bzA ?_))
   rintro e w1 ⟨rfl, hb1⟩
   have x0 : w1.cell? ⟨w.heap.size, 0, none⟩ = some (.bool n1) := bkc hb1
   have zx0 := cell_lt x0
   have x1 : w1.cell? ⟨w.heap.size, 1, none⟩ = some (.slice a1 l1 c1) := bkc hb1
   have x2 : w1.cell? ⟨w.heap.size, 2, none⟩ = some (.bool n2) := bkc hb1
   have x3 : w1.cell? ⟨w.heap.size, 3, none⟩ = some (.slice a2 l2 c2) := bkc hb1
   have hB : Below w.heap.size w w1 := bthen bZ hb1
   have hz := hB.size
   clear WC hb1
   go_wp2_with fail
   (with_reducible refine (TC.out _ ?_).mono ?_); (repeat (first|exact bzR _ _|exact hB|refine bzD ?_|refine bzN ?_|refine bzS ?_|refine bzA ?_))
   rintro e w2 ⟨rfl, hb2⟩
   have hB2 : Below w.heap.size w w2 := bthen bZ hb2
   clear TC hb2
   go_wp2
   go_ret
   exact ⟨rfl, bZ⟩
 · have HQT := hZ (qTxt_two hd)
   rw [decide_eq_false hd] at WC
   obtain ⟨T, hT⟩ : ∃ T, intTxt x.num = T := ⟨_, rfl⟩
   obtain ⟨D, hD⟩ : ∃ D, intTxt (x.den : Int) = D := ⟨_, rfl⟩
   rw [hT] at TC HQT hl1
   rw [hD] at TD HQT hl2
   rw [HQT.out]
   have hs1 : ¬ 9223372036854775807 < T.length + 1 := by omega
   have hs2 : ¬ 9223372036854775807 < T.length + 1 + D.length := by omega
   have HSB := hZ (show (⟨T.toArray⟩ : ByteArray) ++ (⟨#[47]⟩ : ByteArray) ++ ⟨D.toArray⟩ = ⟨(T ++ [47] ++ D).toArray⟩ from by
    rw [ba_one, ba_app])
   clear h1 h2 bx hd hT hD HQT hl1 hl2
   go_enter Tryz.func81, Tryz.ntmps81
   go_wp2_with fail
   (with_reducible refine (WC.out _ ?_).mono ?_); (repeat (first|exact bzR _ _|exact hB|refine bzD ?_|refine bzN ?_|refine bzS ?_|refine bzA ?_))
   rintro e w5 ⟨rfl, hb5⟩
   have x0 : w5.cell? ⟨w.heap.size, 0, none⟩ = some (.bool n1) := bkc hb5
   have zx0 := cell_lt x0
   have x1 : w5.cell? ⟨w.heap.size, 1, none⟩ = some (.slice a1 l1 c1) := bkc hb5
   have x2 : w5.cell? ⟨w.heap.size, 2, none⟩ = some (.bool n2) := bkc hb5
   have x3 : w5.cell? ⟨w.heap.size, 3, none⟩ = some (.slice a2 l2 c2) := bkc hb5
   have hB : Below w.heap.size w w5 := bthen bZ hb5
   have hz := hB.size
   have HB5 := hZ hB
   have HS := hZ (show ∀ V, Below w5.heap.size w5 V → V.cell? ⟨w.heap.size, 0, none⟩ = some (.bool n1) ∧ V.cell? ⟨w.heap.size, 1, none⟩ = some (.slice a1 l1 c1) ∧ V.cell? ⟨w.heap.size, 2, none⟩ = some (.bool n2) ∧ V.cell? ⟨w.heap.size, 3, none⟩ = some (.slice a2 l2 c2) from fun V q => ⟨bkeep q x0, bkeep q x1, bkeep q x2, bkeep q x3⟩)
   have hBw := Below.refl w5.heap.size w5
   clear WC hb5 hB
   go_upto_region 3 with (fail)
   go_region_held3 (fun V => V.cell? ⟨w.heap.size, 0, none⟩ = some (.bool n1) ∧ V.cell? ⟨w.heap.size, 1, none⟩ = some (.slice a1 l1 c1) ∧ V.cell? ⟨w.heap.size, 2, none⟩ = some (.bool n2) ∧ V.cell? ⟨w.heap.size, 3, none⟩ = some (.slice a2 l2 c2))
    (first | (refine HS.out _ ?_; (repeat (first|exact bzR _ _|exact hBw|refine bzD ?_|refine bzN ?_|refine bzS ?_|refine bzA ?_)); done) | fail)
    (first
     | (go_at_call 29; (with_reducible show Calls _ _ #[.agg #[.bool n1, .slice a1 l1 c1]] _ _); refine (TC.out _ (bthen HB5.out ?_)).mono ?_; (repeat (first|exact bzR _ _|exact hBw|refine bzD ?_|refine bzN ?_|refine bzS ?_|refine bzA ?_)); rintro e w6 ⟨rfl, hb6⟩; (replace hBw : Below w5.heap.size w5 w6 := bthen bZ hb6))
     | (go_at_call 29; refine (TD.out _ (bthen HB5.out ?_)).mono ?_; (repeat (first|exact bzR _ _|exact hBw|refine bzD ?_|refine bzN ?_|refine bzS ?_|refine bzA ?_)); rintro e w7 ⟨rfl, hb7⟩; (replace hBw : Below w5.heap.size w5 w7 := bthen bZ hb7))
     | fail)
   all_goals
    have hBf := bthen HB5.out hBw
    clear HS x0 x1 x2 x3
    go_wp2
    go_ret
    refine ⟨?_, bZ⟩
    have hs := HSB.out
    first | rfl | (simp only [hs]; done) | (rw [hs]; rfl)
end
section
open Num
section
variable {w w' : World} {v : Value} {r : List Rat}
end
section
variable {base : Nat} {w w' : World} {v : Value} {g : GridF}
end
section
variable {ops : Array Oper} {o : Oper} {a : Act} {Q : Exit → Act → World → Prop} {base : Nat} {wr : World} {v u : Value} {g : GridF} {r : List Rat} {t : TypeId} {s x : Operand} {c : Nat}
theorem app_Rg {rest : List Oper} {gb : Nat} (hgb : gb = wr.heap.size) (hgd : o.guard = none) (ho : o.op = .call { callee := .builtin .append, args := #[s, x], argTypes := #[33, 33] }) (hO : SetR base wr v g) (hr : FR wr u r) (hbase : base ≤ wr.heap.size) (hs : a.eval s = v)
 (hx : a.eval x = .slice (some ⟨gb, 0, none⟩) 1 c) (hn : g.length + 1 ≤ 1099511627776)
 (h : ∀ v' w', SetR base w' v' (g ++ [r]) → Out (fun k => v.ownBlock = some k) wr w' → Kp (· ≠ 44) wr w' → wpList Tryz.prog ops Q rest (a.put o.dst v') w') : wpList Tryz.prog ops Q (o :: rest) a (wr.alloc (.cells #[u] t)) := by
 subst hgb
 exact app_R hgd ho hO hr hbase hs hx hn h
end
end
section
open Num
attribute [local go_sem ↓] Go.wp_at_zero Go.wp_at_succ
theorem check_yes {ins regs : Int} {ca oa : Option Addr} {cc oc : Nat} {code : List Ins} {outs : List Int} {w : World} (hc : InsV w ca cc code) (ho : IntsV w oa oc outs) (h : ProgOk ins regs code outs) : Calls Tryz.prog 94 #[.agg #[.int .i64 ins, .int .i64 regs, .slice ca code.length cc, .slice oa outs.length oc]] w fun e w' => (∃ r : Int, e = .returned (.tuple #[.int .i64 r, .int .i64 0])) ∧ Below w.heap.size w w' :=
 (check_c ins regs ca oa cc oc code outs w hc ho).mono fun e w' ⟨r, s, h1, h2, h3⟩ => by
  rcases h2 with ⟨_, rfl, rfl⟩ | ⟨h4, _⟩
  · exact ⟨⟨_, h1⟩, h3⟩
  · exact absurd h h4
theorem check_no {ins regs : Int} {ca oa : Option Addr} {cc oc : Nat} {code : List Ins} {outs : List Int} {w : World} (hc : InsV w ca cc code) (ho : IntsV w oa oc outs) (h : ¬ ProgOk ins regs code outs) : Calls Tryz.prog 94 #[.agg #[.int .i64 ins, .int .i64 regs, .slice ca code.length cc, .slice oa outs.length oc]] w fun e w' => (∃ r : Int, e = .returned (.tuple #[.int .i64 r, .int .i64 80])) ∧ Below w.heap.size w w' :=
 (check_c ins regs ca oa cc oc code outs w hc ho).mono fun e w' ⟨r, s, h1, h2, h3⟩ => by
  rcases h2 with ⟨h4, _⟩ | ⟨_, rfl⟩
  · exact absurd h4 h
  · exact ⟨⟨_, h1⟩, h3⟩
end
section
open Num
attribute [local go_sem ↓] Go.wp_at_zero Go.wp_at_succ
def VarF (b : Nat) (q : Rat) (w : World) : Prop := FrBlk IsQP 79 w b 1 (fun _ => q)
theorem VarF.new {w : World} {b : Nat} (hb : b = w.heap.size) : VarF b 0 (w.alloc (.cells #[.bool false, .slice none 0 0, .bool false, .slice none 0 0] 79)) := by
 subst hb
 refine ⟨typ_fresh rfl, Free.new rfl, fun k hk => ?_⟩
 obtain rfl : k = 0 := by omega
 exact ⟨_, _, _, _, _, _, _, _, cell_new rfl rfl, cell_new rfl rfl, cell_new rfl rfl, cell_new rfl rfl, IsQP.zero _⟩
theorem VarF.keep {b : Nat} {q : Rat} {w w' : World} (h : VarF b q w) (k : Below w.heap.size w w') : VarF b q w' := FrBlk.keep frk_prog h k
theorem VarF.view {b : Nat} {q : Rat} {w : World} (h : VarF b q w) : ∃ n1 a1 l1 c1 n2 a2 l2 c2, w.cell? ⟨b, 0, none⟩ = some (.bool n1) ∧ w.cell? ⟨b, 1, none⟩ = some (.slice a1 l1 c1) ∧ w.cell? ⟨b, 2, none⟩ = some (.bool n2) ∧ w.cell? ⟨b, 3, none⟩ = some (.slice a2 l2 c2) ∧ IsQP w (.agg #[.bool n1, .slice a1 l1 c1, .bool n2, .slice a2 l2 c2]) q ∧ w.frozen? ⟨b, 0, none⟩ = false ∧ w.frozen? ⟨b, 1, none⟩ = false ∧ w.frozen? ⟨b, 2, none⟩ = false ∧ w.frozen? ⟨b, 3, none⟩ = false := by
 obtain ⟨n1, a1, l1, c1, n2, a2, l2, c2, h0, h1, h2, h3, h4⟩ := h.at_ 0 (by omega)
 exact ⟨n1, a1, l1, c1, n2, a2, l2, c2, by simpa using h0, by simpa using h1, by simpa using h2, by simpa using h3, h4, h.fr.2 _, h.fr.2 _, h.fr.2 _, h.fr.2 _⟩
theorem VarF.put {b : Nat} {q z : Rat} {w : World} (h : VarF b q w) {n1 n2 : Bool} {a1 a2 : Option Addr} {l1 c1 l2 c2 : Nat} (hv : IsQP w (.agg #[.bool n1, .slice a1 l1 c1, .bool n2, .slice a2 l2 c2]) z) :
 VarF b z ((((w.setCell ⟨b, 0, none⟩ (.bool n1)).setCell ⟨b, 1, none⟩ (.slice a1 l1 c1)).setCell ⟨b, 2, none⟩ (.bool n2)).setCell ⟨b, 3, none⟩ (.slice a2 l2 c2)) := by
 have := FrBlk.put frk_prog h (k := 0) (by omega) hv
 simp only [Nat.zero_mul, Nat.zero_add] at this
 exact this.congr fun k hk => by rw [if_pos (by omega)]
end
section
open Num
attribute [local go_sem ↓] Go.wp_at_zero Go.wp_at_succ
def inF (l : List Int) (R : Nat) : GridF := (List.range R).map fun k => [if k < l.length then ((l.getD k 0 : Int) : Rat) else 0]
theorem inF_len (l : List Int) (R : Nat) : (inF l R).length = R := by simp [inF]
theorem inF_get {l : List Int} {R k : Nat} (h : k < R) : (inF l R).getD k [] = [if k < l.length then ((l.getD k 0 : Int) : Rat) else 0] := by simp [inF, h]
theorem inF_rect (l : List Int) (R : Nat) : RectF 1 (inF l R) := fun i hi => by rw [inF_len] at hi; rw [inF_get hi]; rfl
theorem inF_slim {l : List Int} (R : Nat) (hb : ∀ j, Bd 65000 (l.getD j 0)) : SlimG (inF l R) := fun i hi j hj => by
 rw [inF_len] at hi
 rw [inF_get hi] at hj ⊢
 obtain rfl : j = 0 := by simpa using hj
 show Slim (if i < l.length then ((l.getD i 0 : Int) : Rat) else 0)
 split
 · exact (BdQ.whole (hb i) (by omega)).mono (by omega)
 · have h := slim_01 False
   rwa [if_neg (fun h => h)] at h
def upF (S : GridF) (k : Nat) : GridF := S.take k ++ List.replicate (S.length - k) []
theorem upF_len {S : GridF} {k : Nat} (h : k ≤ S.length) : (upF S k).length = S.length := by simp [upF]; omega
theorem upF_set {S : GridF} {k : Nat} (h : k < S.length) : (upF S k).set k (S.getD k []) = upF S (k + 1) := by
 unfold upF
 have e : S.length - k = (S.length - (k + 1)) + 1 := by omega
 rw [e, List.replicate_succ, List.set_append_right _ _ (by simp; omega), List.length_take, Nat.min_eq_left (by omega), Nat.sub_self, List.set_cons_zero, take_getDF h, List.append_assoc]; rfl
theorem upF_all (S : GridF) : upF S S.length = S := by simp [upF]
theorem mkRegsF (n : Nat) (hn : n ≤ 1099511627776) (w : World) : (Instr.makeSlice 29 (.int .i64 (n : Int)) (.int .i64 (n : Int))).run Tryz.prog w = .ok (.slice (some ⟨w.heap.size, 0, none⟩) n n) (w.alloc (.cells (Array.replicate n (.slice none 0 0)) 38)) := by
 obtain ⟨i0, hi, hz0, hz1, hz2⟩ := info_parts infoRats
 have e : madeCells (Value.slice none 0 0).cells ((n : Int).toNat * 1) = Array.replicate n (.slice none 0 0) := by
  apply Array.ext
  · simp [size_madeCells]
  · intro i h1 h2
    simp [madeCells, Value.cells, Nat.mod_one]
 rw [run_make w _ _ i0 _ Tryz.underlying29 hi hz0 .i64 .i64 n n (by omega) (by omega) (by rw [hz2]; omega) (by omega), hz1, e]
 rfl
theorem regsF_new (w : World) (S : GridF) {n : Nat} (hn : n = S.length) : RegsF (fun _ => False) (w.alloc (.cells (Array.replicate n (.slice none 0 0)) 38)) w.heap.size (upF S 0) :=
 ⟨Free.new rfl, typ_fresh rfl, fun k hk => ⟨.slice none 0 0, cell_new rfl (by rw [upF_len (Nat.zero_le _)] at hk; simp [hn, hk]), by
  rw [upF_len (Nat.zero_le _)] at hk
  rw [show (upF S 0).getD k [] = [] by simp [upF, hk]]
  exact ⟨FrRow.nil _ _ _ _, .inl rfl⟩⟩⟩
def endA (l : List Int) (regs : Int) (code : List Ins) : Option GridF := afterF code (inF l regs.toNat) code.length
def AppNo (ins regs : Int) (code : List Ins) (outs : List Int) (l : List Int) (q : Int) : Prop := (¬ ProgOk ins regs code outs ∧ q = 80) ∨ (ProgOk ins regs code outs ∧ (l.length : Int) ≠ ins ∧ q = 5) ∨ (ProgOk ins regs code outs ∧ (l.length : Int) = ins ∧ endA l regs code = none ∧ q = 3)
def AppRes (ins regs : Int) (code : List Ins) (outs : List Int) (l : List Int) (w' : World) (v : Value) (q : Int) : Prop :=
 (AppNo ins regs code outs l q ∧ v = .slice none 0 0) ∨
 (ProgOk ins regs code outs ∧ (l.length : Int) = ins ∧ q = 0 ∧ ∃ h, endA l regs code = some h ∧ FRow 0 w' v (outsF outs h).flatten)
def AppQPost (ins regs : Int) (code : List Ins) (outs : List Int) (l : List Int) (w : World) (e : Ending) (w' : World) : Prop := (∃ v q, e = .returned (.tuple #[v, .int .i64 q]) ∧ AppRes ins regs code outs l w' v q) ∧ Below w.heap.size w w'
theorem AppQPost.no {ins regs : Int} {code : List Ins} {outs l : List Int} {w w' : World} {q : Int} (h : AppNo ins regs code outs l q) (hb : Below w.heap.size w w') : AppQPost ins regs code outs l w (.returned (.tuple #[.slice none 0 0, .int .i64 q])) w' := ⟨⟨_, _, rfl, .inl ⟨h, rfl⟩⟩, hb⟩
theorem AppQPost.yes {ins regs : Int} {code : List Ins} {outs l : List Int} {w w' : World} {h : GridF} {v : Value} (h1 : ProgOk ins regs code outs) (h2 : (l.length : Int) = ins) (h3 : endA l regs code = some h) (h4 : FRow 0 w' v (outsF outs h).flatten) (hb : Below w.heap.size w w') : AppQPost ins regs code outs l w (.returned (.tuple #[v, .int .i64 0])) w' := ⟨⟨_, _, rfl, .inr ⟨h1, h2, rfl, h, h3, h4⟩⟩, hb⟩
theorem RegsF.made {wr W : World} {rb k R : Nat} {G : GridF} {v : Value} (h : RegsF (fun _ => False) wr rb (upF G k)) (hG : G.length = R) (hk : k < R) (hO : Out (fun q => q = rb) wr W) (hl : Lim wr W) (hf : Free W rb) (ht : typOf W rb = some 38)
 (hc : ∀ j, j ≠ k → W.cell? ⟨rb, j, none⟩ = wr.cell? ⟨rb, j, none⟩) (hv : W.cell? ⟨rb, k, none⟩ = some v) (hr : FRow 0 W v (G.getD k [])) : RegsF (fun _ => False) W rb (upF G (k + 1)) := by
 have hul : (upF G k).length = R := by rw [upF_len (by omega), hG]
 have hkp : Kp (fun t => t = 177 ∨ t = 79) wr W := fun q t hq hs => hO.block q (typ_lt hq) (fun e => by
  rw [e, h.ty] at hq
  rcases hs with hs | hs <;> (rw [hs] at hq; exact absurd hq (by decide)))
 refine ⟨hf, ht, fun j hj => ?_⟩
 rw [upF_len (by omega), hG] at hj
 have hset := upF_set (S := G) (k := k) (by omega)
 by_cases e : j = k
 · subst e
   refine ⟨v, hv, ?_⟩
   rw [← hset, gsetF _ _ _ (by omega), if_pos rfl]
   exact ⟨hr, .inr fun _ _ h => h⟩
 · obtain ⟨u, hu, hx⟩ := h.cell j (by omega)
   refine ⟨u, by rw [hc j e]; exact hu, ?_⟩
   rw [← hset, gsetF _ _ _ (by omega), if_neg e]
   exact ⟨(prs_frow 0).kp hx.1 hkp, .inr fun _ _ h => h⟩
end
end Go.Proofs.YtbmaffijncapiaaGreatDoor
