/- Texts of this seat, laid together: RaD, MiC, MiD, MiF. Each opens with its own remark, which says what it proves, and under which conditions. -/
import Derived.Test.YthaohpfbengabaaGreatDoorV26
import Derived.Test.YthaohpfbengabaaGreatDoorV03
import Derived.Deep.DeepCutAuto
set_option linter.unusedVariables false
set_option linter.unusedSimpArgs false
/- ratio: rows of fractions of the call's own, built by append. -/
namespace Go.Proofs.YthaohpfbengabaaGreatDoor
open Num
open Go.ChangeShapes Go.WideShapes Go.ChangeAt Go.RowKit
set_option linter.unusedVariables false
set_option linter.unusedSimpArgs false
theorem infoRat : (Tryz.prog.info? 97).map (fun i => (i.zero, i.size, i.bytes)) = some (some (.agg #[.bool false, .slice none 0 0, .bool false, .slice none 0 0]), 4, 64) := by kernel_rfl
theorem elRat : Elt Tryz.prog 88 97 4 64 := Elt.mk' Tryz.underlying88 infoRat rfl (by decide) (by decide)
theorem IsRat.lim {w w' : World} {v : Value} {n d : Int} (h : IsRat w v n d) (k : Lim w w') : IsRat w' v n d := by
  obtain ⟨n1, a1, l1, c1, n2, a2, l2, c2, e, h1, h2⟩ := h
  exact ⟨n1, a1, l1, c1, n2, a2, l2, c2, e, h1.lim k, h2.lim k⟩
/-- the four cells of a fraction -/
def RatAt (w : World) (g : Nat → Option Value) (q : Int × Int) : Prop :=
  ∃ n1 a1 l1 c1 n2 a2 l2 c2, g 0 = some (.bool n1) ∧ g 1 = some (.slice a1 l1 c1) ∧ g 2 = some (.bool n2) ∧ g 3 = some (.slice a2 l2 c2) ∧ IsInt w (.agg #[.bool n1, .slice a1 l1 c1]) q.1 ∧ IsInt w (.agg #[.bool n2, .slice a2 l2 c2]) (q.2 - 1)
theorem RatAt.lim {w w' : World} {g : Nat → Option Value} {q : Int × Int} (h : RatAt w g q) (k : Lim w w') : RatAt w' g q := by
  obtain ⟨n1, a1, l1, c1, n2, a2, l2, c2, e0, e1, e2, e3, h1, h2⟩ := h
  exact ⟨n1, a1, l1, c1, n2, a2, l2, c2, e0, e1, e2, e3, h1.lim k, h2.lim k⟩
theorem RatAt.congr {w : World} {g g' : Nat → Option Value} {q : Int × Int} (h : RatAt w g q) (e : ∀ i v, i < 4 → g i = some v → g' i = some v) : RatAt w g' q := by
  obtain ⟨n1, a1, l1, c1, n2, a2, l2, c2, e0, e1, e2, e3, h1, h2⟩ := h
  exact ⟨n1, a1, l1, c1, n2, a2, l2, c2, e 0 _ (by omega) e0, e 1 _ (by omega) e1, e 2 _ (by omega) e2, e 3 _ (by omega) e3, h1, h2⟩
/-- a row of fractions of the call's own -/
def OwnQ (w0 wr : World) (v : Value) (L : List (Int × Int)) : Prop :=
  ∃ xs, OwnE 97 4 w0 wr v L.length xs ∧ ∀ k (hk : k < L.length), RatAt wr (fun i => xs[k * 4 + i]?) L[k]
/-- a row of fractions in memory -/
def IsQ (w : World) (v : Value) (L : List (Int × Int)) : Prop :=
  ∃ a c, v = .slice a L.length c ∧ (L = [] ∨ ∃ b off, a = some ⟨b, off, none⟩ ∧ ∀ k (hk : k < L.length), RatAt w (fun i => w.cell? ⟨b, off + (k * 4 + i), none⟩) L[k])
theorem OwnQ.nil {w0 wr : World} (hb : Below w0.heap.size w0 wr) : OwnQ w0 wr (.slice none 0 0) [] := ⟨[], OwnE.nil _ _ hb, fun k hk => absurd hk (by simp)⟩
theorem OwnQ.ex {w0 wr : World} {v : Value} {L : List (Int × Int)} (h : OwnQ w0 wr v L) : ∃ a c, v = .slice a L.length c := by
  obtain ⟨xs, h1, _⟩ := h; exact h1.ex
theorem OwnQ.bel {w0 wr : World} {v : Value} {L : List (Int × Int)} (h : OwnQ w0 wr v L) : Below w0.heap.size w0 wr := by
  obtain ⟨xs, h1, _⟩ := h; exact h1.2
theorem lim_below {w w' : World} (k : Below w.heap.size w w') : Lim w w' := (Kp.of_below (fun _ => True) k).lim trivial
theorem OwnQ.below {w0 wr w' : World} {v : Value} {L : List (Int × Int)} (h : OwnQ w0 wr v L) (k : Below wr.heap.size wr w') : OwnQ w0 w' v L := by
  obtain ⟨xs, h1, h2⟩ := h
  exact ⟨xs, h1.below k, fun j hj => (h2 j hj).lim (lim_below k)⟩
theorem IsQ.keep {w w' : World} {v : Value} {L : List (Int × Int)} (h : IsQ w v L) (k : Below w.heap.size w w') : IsQ w' v L := by
  obtain ⟨a, c, e, h2⟩ := h
  refine ⟨a, c, e, h2.imp id ?_⟩
  rintro ⟨b, off, e2, h3⟩
  exact ⟨b, off, e2, fun j hj => ((h3 j hj).lim (lim_below k)).congr fun i v _ hv => bkeep k hv⟩
theorem OwnQ.isQ {w0 wr : World} {v : Value} {L : List (Int × Int)} (h : OwnQ w0 wr v L) : IsQ wr v L := by
  obtain ⟨xs, ⟨⟨hl, h1⟩, _⟩, h2⟩ := h
  rcases h1 with ⟨rfl, h0⟩ | ⟨g, cap, cur, rfl, hg, hh, hc, hm, hs, ht⟩
  · exact ⟨none, 0, by rw [h0], .inl (List.length_eq_zero_iff.1 h0)⟩
  · refine ⟨_, cap, rfl, .inr ⟨g, 0, rfl, fun k hk => (h2 k hk).congr fun i u hi hv => ?_⟩⟩
    have hj2 : k * 4 + i < L.length * 4 := by omega
    rw [← ht, List.getElem?_take_of_lt (by omega)] at hv
    rw [Nat.zero_add]
    simpa [World.cell?, hh] using hv
theorem app_rat {ops : Array Oper} {rest : List Oper} {o : Oper} {a : Act} {Q : Exit → Act → World → Prop} {w0 wr : World} {v : Value} {L : List (Int × Int)} {n1 n2 : Bool} {a1 a2 : Option Addr} {l1 c1 l2 c2 : Nat} {n d : Int} {t : TypeId} {s x : Operand} {cc : Nat} (hgd : o.guard = none)
    (ho : o.op = .call { callee := .builtin .append, args := #[s, x], argTypes := #[88, 88] }) (hO : OwnQ w0 wr v L) (hu : IsInt wr (.agg #[.bool n1, .slice a1 l1 c1]) n) (hd : IsInt wr (.agg #[.bool n2, .slice a2 l2 c2]) (d - 1)) (hs : a.eval s = v)
    (hx : a.eval x = .slice (some ⟨wr.heap.size, 0, none⟩) 1 cc) (hn : L.length + 1 ≤ 1099511627776)
    (h : ∀ v' w', OwnQ w0 w' v' (L ++ [(n, d)]) → wpList Tryz.prog ops Q rest (a.put o.dst v') w') : wpList Tryz.prog ops Q (o :: rest) a (wr.alloc (.cells #[.bool n1, .slice a1 l1 c1, .bool n2, .slice a2 l2 c2] t)) := by
  obtain ⟨i, z0, hi, hz, hsize, hby, hzs⟩ := elRat.info
  obtain ⟨xs, h1, h2⟩ := hO
  have hb : (L.length + 1) * 64 ≤ 1099511627776 * 128 := by omega
  refine wpList_append_own _ hgd s x _ ho w0.heap.size 97 i z0 4 64 elRat.ht hi hz hsize hby hzs elRat.pos v L.length xs hs (h1.1.alloc _) ⟨wr.heap.size, 0, none⟩ 1 cc [.bool n1, .slice a1 l1 c1, .bool n2, .slice a2 l2 c2] hx rfl (cells_new wr _ t) (fun u hu => by simp at hu; rcases hu with rfl | rfl | rfl | rfl <;> rfl) (by unfold maxLen; omega) (by omega) (by have := h1.2.size; simp; omega) ?_
  intro v' w' hown hg _
  have hl : Lim wr w' := ((Lim.refl wr).alloc _).grown hg fun g hg' ht => (show 97 ≠ 133 by decide) (by
    rw [typ_keep (own_typ h1 hg') (bal (Below.refl _ _) _)] at ht
    exact Option.some.inj ht)
  have hxl : xs.length = L.length * 4 := h1.1.1
  refine h v' w' ⟨xs ++ [.bool n1, .slice a1 l1 c1, .bool n2, .slice a2 l2 c2], ⟨by rw [List.length_append]; exact hown, below_append (wr := wr) (bal h1.2 _) (h1.1.alloc _) hg⟩, fun k hk => ?_⟩
  by_cases hkl : k < L.length
  · rw [List.getElem_append_left hkl]
    exact ((h2 k hkl).lim hl).congr fun i v hi hv => by
      show (xs ++ _)[k * 4 + i]? = some v
      rw [List.getElem?_append_left (by omega)]; exact hv
  · obtain rfl : k = L.length := by simp at hk; omega
    rw [List.getElem_append_right (Nat.le_refl _)]
    refine ⟨n1, a1, l1, c1, n2, a2, l2, c2, ?_, ?_, ?_, ?_, ?_, ?_⟩
    · show (xs ++ _)[L.length * 4 + 0]? = _
      rw [List.getElem?_append_right (by omega), hxl]; simp
    · show (xs ++ _)[L.length * 4 + 1]? = _
      rw [List.getElem?_append_right (by omega), hxl]; simp
    · show (xs ++ _)[L.length * 4 + 2]? = _
      rw [List.getElem?_append_right (by omega), hxl]; simp
    · show (xs ++ _)[L.length * 4 + 3]? = _
      rw [List.getElem?_append_right (by omega), hxl]; simp
    · simpa using hu.lim hl
    · simpa using hd.lim hl
end Go.Proofs.YthaohpfbengabaaGreatDoor

/- matrix: Inverse of a matrix that has one; Solve. -/
namespace Go.Proofs.YthaohpfbengabaaGreatDoor
open Num
open Go.ChangeShapes Go.WideShapes Go.ChangeAt Go.RowKit
set_option linter.unusedVariables false
set_option linter.unusedSimpArgs false
attribute [local go_sem ↓] Go.wp_at_zero Go.wp_at_succ
theorem inv_bd {K : Nat} {g : Grid} (hK1 : 1 ≤ K) (h : BdM K g) (hd : Det.detE g.length (gat g) ≠ 0) : BdM (kb K g.length) (invG g) := tab_bd fun i j hi hj => bd_quot (adj_bd hK1 h i j) (invS_adj hi hj) (invS_nz hd)
theorem invD_bd {K : Nat} {g : Grid} (hK1 : 1 ≤ K) (h : BdM K g) (hd : Det.detE g.length (gat g) ≠ 0) : Bd (kb K g.length) (invD g) := bd_quot (detE_bd hK1 h rfl) invS_det (invS_nz hd)
theorem inv_mt {K n : Nat} {g : Grid} {v : Value} {w w' : World} (h : Mt K g v w) (hK1 : 1 ≤ K) (hd : Det.detE g.length (gat g) ≠ 0) {u : Value} (hu : IsM 0 w' u (invG g)) : Mt (kb K 16) (invG g) u w' := by
  have s := h.sz
  exact ⟨hu, by rw [inv_cols s.1]; exact tab_rect _ _ _, ⟨by rw [inv_len]; omega, by rw [inv_cols s.1]; omega, by rw [inv_len]; omega, by rw [inv_cols s.1]; omega⟩, (inv_bd hK1 h.bd hd).mono (kb_mono K s.2.2.1)⟩
theorem Mt.inv {K n : Nat} {g : Grid} {v : Value} {w : World} (h : Mt K g v w) (hs : g.length = cols g) (hK1 : 1 ≤ K) (hK : kb K 16 ≤ 4294967296) (hd : Det.detE g.length (gat g) ≠ 0) (hn : g.length = n) :
    Calls Tryz.prog 49 #[v] w fun e w' => (∃ a c nb ua ul uc, e = .returned (.tuple #[.agg #[.slice a n c], .agg #[.bool nb, .slice ua ul uc], .int .i64 0]) ∧ Mt (kb K 16) (invG g) (.agg #[.slice a n c]) w' ∧ IsInt w' (.agg #[.bool nb, .slice ua ul uc]) (invD g)) ∧ Below w.heap.size w w' := by
  have s := h.sz
  refine (invM_c v g K w h.m h.rc (by omega) hK1 h.bd (Nat.le_trans (kb_mono K s.2.2.1) hK)).mono ?_
  rintro e w' ⟨ho, hb⟩
  refine ⟨?_, hb⟩
  rcases ho with ⟨-, -, x, u, rfl, hx, hu⟩ | ⟨-, h2, -⟩ | ⟨h2, -⟩
  · have hx := hx.rebase (Nat.zero_le _)
    obtain ⟨a, c, rfl⟩ := hx.lit
    obtain ⟨nb, ua, ul, uc, rfl⟩ := hu.lit
    rw [inv_len, hn] at hx ⊢
    exact ⟨a, c, nb, ua, ul, uc, rfl, inv_mt (n := n) h hK1 hd hx, hu⟩
  · exact absurd h2 hd
  · have : sqB g = true := by unfold sqB; simp; exact ⟨s.1, hs⟩
    rw [this] at h2; cases h2
/-- what is solved -/
def solL (g : Grid) (l : List Int) : List (Int × Int) := (applyG (invG g) l).map fun x => (x / gcdI x (invD g), invD g / gcdI x (invD g))
set_option maxRecDepth 100000 in
set_option maxHeartbeats 8000000 in
theorem solve_c {n : Nat} {g : Grid} {l : List Int} {v u : Value} {w : World} (h : Mt 64 g v w) (hs : g.length = cols g) (hd : Det.detE g.length (gat g) ≠ 0) (hu : PRow 0 w u l) (hl : l.length = g.length) (bl : ∀ j, Bd 64 (l.getD j 0)) (hn : g.length = n) :
    Calls Tryz.prog 50 #[v, u] w fun e w' => (∃ a c, e = .returned (.tuple #[.slice a n c, .int .i64 0]) ∧ IsQ w' (.slice a n c) (solL g l)) ∧ Below w.heap.size w w' := by
  have s := h.sz
  have SQ := Lib.hid (fun W (q : Below w.heap.size w W) => (show Calls Tryz.prog 69 #[v] W fun e w' => e = .returned (.bool true) ∧ Below W.heap.size W w' from by
    have h1 := square_c v g W (h.m.keep q)
    rw [show sqB g = true by unfold sqB; simp; exact ⟨s.1, hs⟩] at h1
    exact h1))
  have IC := Lib.hid (fun W (q : Below w.heap.size w W) => Mt.inv (h.keep q) hs (by decide) (by decide) hd hn)
  have HL := Lib.hid hu
  have HBL := Lib.hid bl
  have hlc : l.length = cols (invG g) := by rw [inv_cols s.1]; exact hl
  have HLC := Lib.hid hlc
  have hdp := invD_pos hd
  have HBD := Lib.hid ((invD_bd (K := 64) (by decide) h.bd hd).mono (kb_mono 64 s.2.2.1))
  have hn16 : n ≤ 16 := by omega
  obtain ⟨ma, mc, rfl⟩ := h.m.lit
  obtain ⟨la, lc, rfl, -⟩ := hu
  rw [hl, hn] at HL
  rw [hn] at SQ IC
  rw [hl, hn]
  have HN := Lib.hid hn
  obtain ⟨IG, hIG⟩ : ∃ G, invG g = G := ⟨_, rfl⟩
  obtain ⟨D, hD⟩ : ∃ D, invD g = D := ⟨_, rfl⟩
  have HSL := Lib.hid (show solL g l = (applyG IG l).map fun x => (x / gcdI x D, D / gcdI x D) by unfold solL; rw [hIG, hD])
  rw [hIG, hD] at IC
  rw [hIG] at HLC
  rw [hD] at HBD hdp
  have HDP := Lib.hid hdp
  have HIL := Lib.hid (show IG.length = n by rw [← hIG, inv_len, hn])
  clear h hs hd hl bl s hlc hdp hn hIG hD
  have hB := Below.refl w.heap.size w
  go_enter Tryz.func50, Tryz.ntmps50
  go_wp2_with fail
  (with_reducible refine (SQ.out _ ?_).mono ?_); (repeat (first | exact Below.refl _ _ | exact hB | refine Below.drew ?_ | refine below_drewN ?_ _ | refine bset ?_ (by simp <;> omega) _ | refine bal ?_ _))
  rintro e w1 ⟨rfl, hb1⟩
  have m0 : w1.cell? ⟨w.heap.size, 0, none⟩ = some (.slice ma n mc) := bkc hb1
  have zm0 := cell_lt m0
  have hB : Below w.heap.size w w1 := bthen (by repeat (first | exact Below.refl _ _ | exact hB | refine Below.drew ?_ | refine below_drewN ?_ _ | refine bset ?_ (by simp <;> omega) _ | refine bal ?_ _)) hb1
  have hz : w.heap.size ≤ w1.heap.size := hB.size
  have hnn : ((n : Int) != (n : Int)) = false := by simp
  clear SQ hb1
  go_wp2_with fail
  (with_reducible refine (rowsM_c _ _ _ _).mono ?_)
  rintro e w2 ⟨rfl, hb2⟩
  have m0 : w2.cell? ⟨w.heap.size, 0, none⟩ = some (.slice ma n mc) := bkc hb2
  have zm0 := cell_lt m0
  have hB : Below w.heap.size w w2 := bthen (by repeat (first | exact Below.refl _ _ | exact hB | refine Below.drew ?_ | refine below_drewN ?_ _ | refine bset ?_ (by simp <;> omega) _ | refine bal ?_ _)) hb2
  have hz : w.heap.size ≤ w2.heap.size := hB.size
  clear hb2
  go_wp2_with fail
  (with_reducible refine (IC.out _ ?_).mono ?_); (repeat (first | exact Below.refl _ _ | exact hB | refine Below.drew ?_ | refine below_drewN ?_ _ | refine bset ?_ (by simp <;> omega) _ | refine bal ?_ _))
  rintro e w3 ⟨⟨ia, ic, nb, da, dl, dc, rfl, hi, hdv⟩, hb3⟩
  have hB3 : Below w.heap.size w w3 := bthen (by repeat (first | exact Below.refl _ _ | exact hB | refine Below.drew ?_ | refine below_drewN ?_ _ | refine bset ?_ (by simp <;> omega) _ | refine bal ?_ _)) hb3
  have MI := Lib.hid hi
  have HD := Lib.hid hdv
  clear IC hi hdv hb3 m0 zm0
  have hBw := Below.refl w3.heap.size w3
  have AC := Lib.hid (fun W (q : Below w3.heap.size w3 W) => Mt.apply (MI.out.keep q) (prow_keep HL.out (bthen hB3 q)) HLC.out HBL.out (by decide) HIL.out)
  go_wp2_with fail
  (with_reducible refine (AC.out _ ?_).mono ?_); (repeat (first | exact Below.refl _ _ | exact hBw | refine Below.drew ?_ | refine below_drewN ?_ _ | refine bset ?_ (by simp <;> omega) _ | refine bal ?_ _))
  rintro e w4 ⟨⟨va, vc, rfl, hv, hvl, hvb⟩, hb4⟩
  have hB := hB3
  have i0 : w4.cell? ⟨w3.heap.size, 0, none⟩ = some (.slice ia n ic) := bkc hb4
  have zi0 := cell_lt i0
  have d0 : w4.cell? ⟨w3.heap.size + 1, 0, none⟩ = some (.bool nb) := bkc hb4
  have zd0 := cell_lt d0
  have d1 : w4.cell? ⟨w3.heap.size + 1, 1, none⟩ = some (.slice da dl dc) := bkc hb4
  have hB : Below w.heap.size w w4 := bthen (by repeat (first | exact Below.refl _ _ | exact hB | refine Below.drew ?_ | refine below_drewN ?_ _ | refine bset ?_ (by simp <;> omega) _ | refine bal ?_ _)) hb4
  have hz : w.heap.size ≤ w4.heap.size := hB.size
  have hk : Below w3.heap.size w3 w4 := bthen (by repeat (first | exact Below.refl _ _ | exact hBw | refine Below.drew ?_ | refine below_drewN ?_ _ | refine bset ?_ (by simp <;> omega) _ | refine bal ?_ _)) hb4
  have HD4 := Lib.hid (HD.out.keep hk)
  obtain ⟨X, hX⟩ : ∃ X, applyG IG l = X := ⟨_, rfl⟩
  rw [hX] at hv hvl hvb HSL
  have HV := Lib.hid (And.intro hv (And.intro hvl hvb))
  have HB4 := Lib.hid hB
  obtain ⟨fq, hfq⟩ : ∃ f : Int → Int × Int, (fun x => (x / gcdI x D, D / gcdI x D)) = f := ⟨_, rfl⟩
  rw [hfq] at HSL
  have HFQ := Lib.hid hfq
  clear hv hvl hvb AC MI HD hk hb4 i0 hB3 hBw hX hfq hnn HBL
  go_wp2
  go_loopw [10, 45] (fun o x wr => ∃ j : Nat, j ≤ n ∧ x = .int .i64 j ∧ Hid (OwnQ w4 wr o ((X.take j).map fq))) (fun _ x _ => n - (intOf x).toNat)
  case atStart => exact ⟨0, Nat.zero_le _, rfl, Lib.hid (OwnQ.nil (Below.refl _ _))⟩
  case round =>
    obtain ⟨j, hj, rfl, hO⟩ := hrel
    have hBr := hO.out.bel
    have hlen : ((X.take j).map fq).length = j := by rw [List.length_map, List.length_take, HV.out.2.1]; omega
    have HLEN := Lib.hid hlen
    obtain ⟨oa, oc, hov⟩ := hO.out.ex
    rw [hlen] at hov
    subst hov
    clear hlen
    by_cases hlt : j < n
    · have hltI : (j : Int) < (n : Int) := by omega
      obtain ⟨a', c', he, -, vr⟩ := HV.out.1.view
      obtain ⟨rfl, -, rfl⟩ := Value.slice.inj he
      obtain ⟨rb, ro, n3, a3, l3, c3, rfl, r0, r1, hi⟩ := vr j (by rw [HV.out.2.1]; exact hlt)
      have hbj := HV.out.2.2 j
      have HT := Lib.hid (show (X.take (j + 1)).map fq = (X.take j).map fq ++ [fq (X.getD j 0)] by
        rw [take_getD 0 (by rw [HV.out.2.1]; exact hlt), List.map_append]; rfl)
      obtain ⟨xj, hxj⟩ : ∃ z, X.getD j 0 = z := ⟨_, rfl⟩
      obtain ⟨Lj, hLj⟩ : ∃ L, (X.take j).map fq = L := ⟨_, rfl⟩
      rw [hxj] at hi hbj HT
      rw [hLj] at hO HLEN HT
      clear hxj hLj
      have MC := Lib.hid (fun W (q : Below wr.heap.size wr W) => makePos_c _ _ xj D (kb 64 16 + 64 + 16) W (hi.keep (bthen hBr q)) (HD4.out.keep (bthen hBr q)) hbj (HBD.out.mono (by omega)) (by decide) HDP.out)
      have q0 := bkeep hBr r0
      have q1 := bkeep hBr r1
      have e0 := bkeep hBr d0
      have e1 := bkeep hBr d1
      have zq := cell_lt q0
      have ze := cell_lt e0
      have hLM : Lj.length + 1 ≤ 1099511627776 := by rw [HLEN.out]; omega
      have hBw := Below.refl wr.heap.size wr
      clear hi r0 r1 vr he hbj
      go_wp2_with fail
      (with_reducible refine (MC.out _ ?_).mono ?_); (repeat (first | exact Below.refl _ _ | exact hBw | refine Below.drew ?_ | refine below_drewN ?_ _ | refine bset ?_ (by simp <;> omega) _ | refine bal ?_ _))
      rintro e w6 ⟨⟨yv, rfl, hy⟩, hb6⟩
      have hk : Below wr.heap.size wr w6 := bthen (by repeat (first | exact Below.refl _ _ | exact hBw | refine Below.drew ?_ | refine below_drewN ?_ _ | refine bset ?_ (by simp <;> omega) _ | refine bal ?_ _)) hb6
      have HO6 := Lib.hid (hO.out.below hk)
      obtain ⟨un, ua, ul, uc, sn, sa, sl, sc, rfl, hyu, hys⟩ := hy
      have HU6 := Lib.hid hyu
      have HS6 := Lib.hid hys
      clear MC hyu hys hb6 hO q0 q1 e0 e1 zq ze
      go_upto_region 16 with (fail)
      refine wp_name fun w7 hW7 => ?_
      have y0 : w7.cell? ⟨w6.heap.size, 0, none⟩ = some (.bool un) := by rw [hW7]; simp [go_sem]
      have y1 : w7.cell? ⟨w6.heap.size, 1, none⟩ = some (.slice ua ul uc) := by rw [hW7]; simp [go_sem]
      have y2 : w7.cell? ⟨w6.heap.size, 2, none⟩ = some (.bool sn) := by rw [hW7]; simp [go_sem]
      have y3 : w7.cell? ⟨w6.heap.size, 3, none⟩ = some (.slice sa sl sc) := by rw [hW7]; simp [go_sem]
      have hk7 : Below w6.heap.size w6 w7 := by rw [hW7]; exact bal (Below.refl _ _) _
      have HO7 := Lib.hid (HO6.out.below hk7)
      have HU7 := Lib.hid (HU6.out.keep hk7)
      have HS7 := Lib.hid (HS6.out.keep hk7)
      clear hW7 hk7 HO6 HU6 HS6
      go_wp2_with (at_builtin; refine app_rat (by rfl) (by rfl) HO7.out HU7.out HS7.out (by rfl) (by rfl) hLM ?_)
      intro v' w8 hO8
      have hf : (xj / gcdI xj D, D / gcdI xj D) = fq xj := by rw [← HFQ.out]
      rw [hf, ← HT.out] at hO8
      have HO8 := Lib.hid hO8
      clear hO8 hf
      go_wp2
      exact ⟨⟨j + 1, hlt, by go_num, HO8⟩, meas hlt (by go_num) rfl⟩
    · obtain rfl : j = n := by omega
      have hltI : ¬ (j : Int) < (j : Int) := by omega
      have hBf := bthen HB4.out hBr
      have hq := hO.out.isQ
      rw [List.take_of_length_le (by rw [HV.out.2.1]; exact Nat.le_refl _)] at hq
      have HQ := Lib.hid hq
      clear hq hO
      go_wp2
      refine bodyPost_ret (v := .tuple #[.slice oa j oc, .int .i64 0]) (by simp [results, Tryz.results50, go_sem, *]) rfl ⟨⟨_, _, rfl, by rw [HSL.out]; exact HQ.out⟩, ?_⟩
      repeat (first | exact Below.refl _ _ | exact hBf | refine Below.drew ?_ | refine below_drewN ?_ _ | refine bset ?_ (by simp <;> omega) _ | refine bal ?_ _)
end Go.Proofs.YthaohpfbengabaaGreatDoor

/- matrices, plain: what is solved is turned back. -/
namespace Go.Proofs.YthaohpfbengabaaGreatDoor
open Num
set_option linter.unusedVariables false
set_option linter.unusedSimpArgs false
/-- the sum of a row's numbers times fractions, each over its own number: what stands above, what stands below, so far -/
def numF (r : List Int) (S : List (Int × Int)) : Nat → Int × Int
  | 0 => (0, 1)
  | j + 1 => ((numF r S j).1 * (S.getD j (0, 1)).2 + r.getD j 0 * (S.getD j (0, 1)).1 * (numF r S j).2, (numF r S j).2 * (S.getD j (0, 1)).2)
theorem numF_eq {r : List Int} {S : List (Int × Int)} {X : List Int} {k : Int} (h : ∀ j, j < r.length → (S.getD j (0, 1)).1 * k = X.getD j 0 * (S.getD j (0, 1)).2) : ∀ j, j ≤ r.length → (numF r S j).1 * k = (numF r S j).2 * Det.isum j fun t => r.getD t 0 * X.getD t 0
  | 0, _ => by simp [numF, Det.isum]
  | j + 1, hj => by
    have ih := numF_eq h j (by omega)
    have hs := h j (by omega)
    show ((numF r S j).1 * (S.getD j (0, 1)).2 + r.getD j 0 * (S.getD j (0, 1)).1 * (numF r S j).2) * k = (numF r S j).2 * (S.getD j (0, 1)).2 * (Det.isum j _ + r.getD j 0 * X.getD j 0)
    generalize (numF r S j).1 = a at *
    generalize (numF r S j).2 = d at *
    generalize (S.getD j (0, 1)).1 = p at *
    generalize (S.getD j (0, 1)).2 = q at *
    generalize Det.isum j (fun t => r.getD t 0 * X.getD t 0) = s at *
    generalize r.getD j 0 = y at *
    generalize X.getD j 0 = x at *
    grind
theorem solL_len (g : Grid) (l : List Int) : (solL g l).length = g.length := by
  unfold solL; rw [List.length_map, app_len, inv_len]
theorem solL_at {g : Grid} {l : List Int} {j : Nat} (hj : j < g.length) : (solL g l).getD j (0, 1) = ((applyG (invG g) l).getD j 0 / gcdI ((applyG (invG g) l).getD j 0) (invD g), invD g / gcdI ((applyG (invG g) l).getD j 0) (invD g)) := by
  have h1 : j < (applyG (invG g) l).length := by rw [app_len, inv_len]; exact hj
  unfold solL
  rw [List.getD_eq_getElem?_getD, List.getElem?_map, List.getElem?_eq_getElem h1]
  have h2 : (applyG (invG g) l).getD j 0 = (applyG (invG g) l)[j] := by rw [List.getD_eq_getElem?_getD, List.getElem?_eq_getElem h1]; rfl
  rw [h2]; rfl
theorem solL_cross {g : Grid} {l : List Int} {j : Nat} (hd : Det.detE g.length (gat g) ≠ 0) (hj : j < g.length) : ((solL g l).getD j (0, 1)).1 * invD g = (applyG (invG g) l).getD j 0 * ((solL g l).getD j (0, 1)).2 := by
  rw [solL_at hj]
  generalize (applyG (invG g) l).getD j 0 = x
  have hk := invD_pos hd
  generalize invD g = k at *
  have h1 := gcd_dvdL x k
  have h2 := gcd_dvdR x k
  have h0 : gcdI x k ≠ 0 := fun e => by rw [e] at h2; have := Int.zero_dvd.1 h2; omega
  generalize gcdI x k = G at *
  obtain ⟨a, rfl⟩ := h1
  obtain ⟨b, rfl⟩ := h2
  show G * a / G * (G * b) = G * a * (G * b / G)
  rw [Int.mul_ediv_cancel_left _ h0, Int.mul_ediv_cancel_left _ h0]
  grind
theorem isum_none {n i : Nat} {c : Int} (h : n ≤ i) : Det.isum n (fun t => if i = t then c else 0) = 0 := by
  induction n with
  | zero => rfl
  | succ n ih =>
    show Det.isum n (fun t => if i = t then c else 0) + (if i = n then c else 0) = 0
    rw [ih (by omega), if_neg (by omega)]; rfl
theorem isum_one {n i : Nat} {c : Int} (h : i < n) : Det.isum n (fun t => if i = t then c else 0) = c := by
  induction n with
  | zero => omega
  | succ n ih =>
    show Det.isum n (fun t => if i = t then c else 0) + (if i = n then c else 0) = c
    by_cases e : i = n
    · rw [if_pos e, isum_none (by omega)]; omega
    · rw [if_neg e, ih (by omega)]; omega
/-- the sum is the number that was asked -/
theorem solved_eq {g : Grid} {l : List Int} {i : Nat} (hr : Rct g (cols g)) (hs : g.length = cols g) (hd : Det.detE g.length (gat g) ≠ 0) (hl : l.length = g.length) (hi : i < g.length) :
    (numF (g.getD i []) (solL g l) g.length).1 = (numF (g.getD i []) (solL g l) g.length).2 * l.getD i 0 := by
  have hp : 0 < g.length := by omega
  have hk := invD_pos hd
  have hrl : (g.getD i []).length = g.length := by rw [hr i hi]; exact hs.symm
  have h1 := numF_eq (r := g.getD i []) (S := solL g l) (X := applyG (invG g) l) (k := invD g) (fun j hj => solL_cross hd (by omega)) g.length (by omega)
  have hri : Rct (invG g) (cols (invG g)) := by rw [inv_cols hp]; exact tab_rect _ _ _
  have h2 : Det.isum g.length (fun t => (g.getD i []).getD t 0 * (applyG (invG g) l).getD t 0) = invD g * l.getD i 0 := by
    have e1 : (applyG g (applyG (invG g) l)).getD i 0 = Det.isum g.length (fun t => gat g i t * (applyG (invG g) l).getD t 0) := by
      have := app_at (l := applyG (invG g) l) hr (by rw [app_len, inv_len]; exact hs) hi
      rw [this, ← hs]
    have e2 : applyG g (applyG (invG g) l) = applyG (timesG g (invG g)) l := app_times hp (by rw [inv_len]; exact hp) hr hri (by rw [inv_len]; exact hs.symm) (by rw [inv_cols hp]; exact hl)
    have e3 : (applyG (timesG g (invG g)) l).getD i 0 = invD g * l.getD i 0 := by
      rw [mul_invG hs hp hd, scale_id]
      have := app_at (g := tab g.length g.length fun i j => if i = j then invD g else 0) (l := l) (m := g.length) (i := i) (tab_rect _ _ _) hl (by rw [tab_len]; exact hi)
      rw [this]
      have e4 : Det.isum g.length (fun t => gat (tab g.length g.length fun i j => if i = j then invD g else 0) i t * l.getD t 0) = Det.isum g.length fun t => if i = t then invD g * l.getD i 0 else 0 :=
        Det.isum_congr fun t ht => by
          rw [tab_gat hi ht]
          by_cases e : i = t
          · subst e; simp
          · simp [e]
      rw [e4]
      exact isum_one hi
    show Det.isum g.length (fun t => gat g i t * (applyG (invG g) l).getD t 0) = _
    rw [← e1, e2, e3]
  rw [h2] at h1
  refine Int.eq_of_mul_eq_mul_right (show invD g ≠ 0 by omega) ?_
  rw [h1]; grind
end Go.Proofs.YthaohpfbengabaaGreatDoor

/- matrix: Adjugate of a square matrix. -/
namespace Go.Proofs.YthaohpfbengabaaGreatDoor
open Num
open Go.ChangeShapes Go.WideShapes Go.ChangeAt Go.RowKit
set_option linter.unusedVariables false
set_option linter.unusedSimpArgs false
theorem Mt.adj {K n : Nat} {g : Grid} {v : Value} {w : World} (h : Mt K g v w) (hs : g.length = cols g) (hK1 : 1 ≤ K) (hK : kb K 16 ≤ 4294967296) (hn : g.length = n) :
    Calls Tryz.prog 48 #[v] w fun e w' => (∃ a c, e = .returned (.tuple #[.agg #[.slice a n c], .int .i64 0]) ∧ Mt (kb K 16) (adjG g) (.agg #[.slice a n c]) w') ∧ Below w.heap.size w w' := by
  have s := h.sz
  refine (adjM_c v g K w h.m h.rc (by omega) hK1 h.bd (Nat.le_trans (kb_mono K (by omega : g.length - 1 ≤ 16)) hK)).mono ?_
  rintro e w' ⟨ho, hb⟩
  refine ⟨?_, hb⟩
  rcases ho with ⟨-, x, rfl, hx⟩ | ⟨h2, -⟩
  · have hx := hx.rebase (Nat.zero_le _)
    obtain ⟨a, c, rfl⟩ := hx.lit
    rw [adj_len, hn] at hx ⊢
    exact ⟨a, c, rfl, hx, by rw [adj_cols s.1]; exact tab_rect _ _ _, ⟨by rw [adj_len]; omega, by rw [adj_cols s.1]; omega, by rw [adj_len]; omega, by rw [adj_cols s.1]; omega⟩, (adj_bd hK1 h.bd).mono (kb_mono K s.2.2.1)⟩
  · exact absurd (show sqB g = true by unfold sqB; simp; exact ⟨s.1, hs⟩) (by first | exact h2 | (rw [h2]; decide))
/-- the inverse of a matrix that has none -/
theorem Mt.inv_flat {K : Nat} {g : Grid} {v : Value} {w : World} (h : Mt K g v w) (hs : g.length = cols g) (hK1 : 1 ≤ K) (hK : kb K 16 ≤ 4294967296) (hd : Det.detE g.length (gat g) = 0) :
    Calls Tryz.prog 49 #[v] w fun e w' => e = .returned (.tuple #[.agg #[.slice none 0 0], .agg #[.bool false, .slice none 0 0], .int .i64 50]) ∧ Below w.heap.size w w' := by
  have s := h.sz
  refine (invM_c v g K w h.m h.rc (by omega) hK1 h.bd (Nat.le_trans (kb_mono K s.2.2.1) hK)).mono ?_
  rintro e w' ⟨ho, hb⟩
  rcases ho with ⟨-, h2, -⟩ | ⟨-, -, rfl⟩ | ⟨h2, -⟩
  · exact absurd hd h2
  · exact ⟨rfl, hb⟩
  · have : sqB g = true := by unfold sqB; simp; exact ⟨s.1, hs⟩
    rw [this] at h2; cases h2
theorem foldG_bd {K : Nat} : ∀ (l : List Int) (c : Int), Bd K c → (∀ x ∈ l, Bd K x) → Bd K (l.foldl gcdI c)
  | [], _, h, _ => h
  | y :: l, c, h, hl => foldG_bd l (gcdI c y) (gcdI_bd h (hl y (List.mem_cons_self ..))) fun x hx => hl x (List.mem_cons_of_mem _ hx)
theorem allG_bd {K : Nat} : ∀ (a : Grid) (c : Int), Bd K c → (∀ r ∈ a, ∀ x ∈ r, Bd K x) → Bd K (allG c a)
  | [], _, h, _ => h
  | y :: a, c, h, ha => allG_bd a (y.foldl gcdI c) (foldG_bd y c h (ha y (List.mem_cons_self ..))) fun r hr => ha r (List.mem_cons_of_mem _ hr)
theorem mem_bd {K : Nat} {l : List Int} (h : ∀ j, Bd K (l.getD j 0)) : ∀ x ∈ l, Bd K x := fun x hx => by
  obtain ⟨j, hj, rfl⟩ := List.mem_iff_getElem.1 hx
  have := h j
  rwa [List.getD_eq_getElem?_getD, List.getElem?_eq_getElem hj] at this
theorem memG_bd {K : Nat} {g : Grid} (h : BdM K g) : ∀ r ∈ g, ∀ x ∈ r, Bd K x := fun r hr => by
  obtain ⟨i, hi, rfl⟩ := List.mem_iff_getElem.1 hr
  refine mem_bd fun j => ?_
  have := h i j
  unfold gat at this
  rwa [List.getD_eq_getElem?_getD (l := g), List.getElem?_eq_getElem hi] at this
theorem foldG_take {l : List Int} {c : Int} {j : Nat} (hj : j < l.length) : (l.take (j + 1)).foldl gcdI c = gcdI ((l.take j).foldl gcdI c) (l.getD j 0) := by
  rw [take_getD 0 hj]; simp
theorem allG_take {a : Grid} {c : Int} {i : Nat} (hi : i < a.length) : allG c (a.take (i + 1)) = (a.getD i []).foldl gcdI (allG c (a.take i)) := by
  rw [take_getD [] hi]; simp [allG]
theorem foldG_step {l : List Int} {c : Int} {K : Nat} (hc : Bd K c) (hl : ∀ j, Bd K (l.getD j 0)) (j : Nat) : Bd K ((l.take j).foldl gcdI c) :=
  foldG_bd _ _ hc fun x hx => mem_bd hl x (List.mem_of_mem_take hx)
theorem allG_step {a : Grid} {c : Int} {K : Nat} (hc : Bd K c) (ha : BdM K a) (i : Nat) : Bd K (allG c (a.take i)) :=
  allG_bd _ _ hc fun r hr => memG_bd ha r (List.mem_of_mem_take hr)
end Go.Proofs.YthaohpfbengabaaGreatDoor

