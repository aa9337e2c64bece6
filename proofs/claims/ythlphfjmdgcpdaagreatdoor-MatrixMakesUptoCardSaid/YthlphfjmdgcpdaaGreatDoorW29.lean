/- MatrixMakes: any rows: their matrix, what stands at any place, its text; what is written into the lists behind it. -/
import Derived.Test.YthlphfjmdgcpdaaGreatDoorW27
import Derived.Test.YthlphfjmdgcpdaaGreatDoorW26
import Derived.Test.YthlphfjmdgcpdaaGreatDoorW18
import Derived.Test.YthlphfjmdgcpdaaGreatDoorW28
import Derived.Test.YthlphfjmdgcpdaaGreatDoorW16
import Derived.Deep.DeepCutAuto
set_option linter.unusedVariables false
set_option linter.unusedSimpArgs false
namespace Go.Proofs.YthlphfjmdgcpdaaGreatDoor
open Num
open Go.ChangeShapes Go.WideShapes Go.ChangeAt Go.RowKit
set_option linter.unusedVariables false
set_option linter.unusedSimpArgs false
attribute [local go_sem ↓] Go.wp_at_zero Go.wp_at_succ
theorem IsInt.lit' {w : World} {v : Value} {z : Int} (h : IsInt w v z) : ∃ n a l c, v = .agg #[.bool n, .slice a l c] := by
  obtain ⟨n, a, c, l, rfl, -⟩ := h
  exact ⟨n, a, l.length, c, rfl⟩
theorem atNo_c (v : Value) (g : Grid) (i j : Int) (w : World) (hv : IsM 0 w v g) (hr : Rct g (cols g)) (h : ¬ (0 ≤ i ∧ i < g.length ∧ 0 ≤ j ∧ j < cols g)) : Calls Tryz.prog 25 #[v, .int .i64 i, .int .i64 j] w fun e w' => e = .returned (.tuple #[.agg #[.bool false, .slice none 0 0], .int .i64 5]) ∧ Below w.heap.size w w' := by
  refine (at_c v g i j w hv hr).mono ?_
  rintro e w' ⟨h1 | ⟨-, rfl⟩, hb⟩
  · exact absurd ⟨h1.1, h1.2.1, h1.2.2.1, h1.2.2.2.1⟩ h
  · exact ⟨rfl, hb⟩
/-- what is told of a place in a row that is there -/
def AtRM (j : Int) (m : Nat) (f : Int) (n : Bool) (a : Option Addr) (l c : Nat) (g : Grid) (i : Nat) (w : World) : Prop :=
  (∃ j' : Nat, j = j' ∧ j' < m ∧ f = 0 ∧ IsInt w (.agg #[.bool n, .slice a l c]) (gat g i j')) ∨ (¬ (0 ≤ j ∧ j < m) ∧ f = 5 ∧ n = false ∧ a = none ∧ l = 0 ∧ c = 0)
theorem AtRM.keep {j : Int} {m : Nat} {f : Int} {n : Bool} {a : Option Addr} {l c : Nat} {g : Grid} {i : Nat} {w w' : World} (h : AtRM j m f n a l c g i w) (b : Below w.heap.size w w') : AtRM j m f n a l c g i w' := by
  rcases h with ⟨j', h1, h2, h3, h4⟩ | h
  · exact .inl ⟨j', h1, h2, h3, h4.keep b⟩
  · exact .inr h
theorem atAny_c (v : Value) (g : Grid) (i : Nat) (j : Int) (m : Nat) (w : World) (hv : IsM 0 w v g) (hr : Rct g (cols g)) (hi : i < g.length) (hm : cols g = m) : Calls Tryz.prog 25 #[v, .int .i64 (i : Nat), .int .i64 j] w fun e w' => (∃ n a l c f, e = .returned (.tuple #[.agg #[.bool n, .slice a l c], .int .i64 f]) ∧
    AtRM j m f n a l c g i w') ∧ Below w.heap.size w w' := by
  refine (at_c v g (i : Nat) j w hv hr).mono ?_
  rintro e w' ⟨h1 | ⟨h, rfl⟩, hb⟩
  · obtain ⟨h1, h2, h3, h4, u, rfl, hu⟩ := h1
    have hu2 := hu
    obtain ⟨n, a, l, c, rfl⟩ := IsInt.lit' hu2
    obtain ⟨j', rfl⟩ := Int.eq_ofNat_of_zero_le h3
    exact ⟨⟨n, a, l, c, 0, rfl, .inl ⟨j', rfl, by omega, rfl, hu⟩⟩, hb⟩
  · exact ⟨⟨_, _, _, _, _, rfl, .inr ⟨by omega, rfl, rfl, rfl, rfl, rfl⟩⟩, hb⟩
theorem WRow.down {lo lo' : Nat} {w : World} {u : Value} {m : Nat} (h : WRow lo w u m) (hl : lo' ≤ lo) : WRow lo' w u m := by
  rcases h with h | ⟨g', cap, cs, e, hg, hh⟩
  · exact .inl h
  · exact .inr ⟨g', cap, cs, e, Nat.le_trans hl hg, hh⟩
theorem bkeepN {B : Nat} {W w1 : World} (hb : Below B W w1) {p : Addr} {v : Value} (h : W.cell? p = some v) (hp : p.block < B) : w1.cell? p = some v := by
  unfold World.cell? at h ⊢
  rw [hb.block _ hp]
  exact h
theorem rowW_c (v : Value) (g : Grid) (i m : Nat) (w : World) (hv : IsM 0 w v g) (hi : i < g.length) (hn : g.length ≤ 65536) (hl : (g.getD i []).length ≤ 1099511627775) (hm : (g.getD i []).length = m) :
    Calls Tryz.prog 26 #[v, .int .i64 (i : Nat)] w fun e w' => (∃ a c, e = .returned (.tuple #[.slice a m c, .int .i64 0]) ∧ WRow w.heap.size w' (.slice a m c) m) ∧ Below w.heap.size w w' := by
  refine (rowM_c v g i w hv hi hn hl).mono ?_
  rintro e w' ⟨⟨u, rfl, hu⟩, hb⟩
  obtain ⟨a, c, rfl⟩ := hu.wrow.ex
  have := hu.wrow
  rw [hm] at this ⊢
  exact ⟨⟨a, c, rfl, this⟩, hb⟩
theorem str_same (S : ByteArray) : (S != S) = false := by unfold bne; rw [bool_beq]; rfl
theorem sgn_zero0 (w : World) : Calls Tryz.prog 13 #[.agg #[.bool false, .slice none 0 0]] w fun e w' => e = .returned (.int .i64 0) ∧ Below w.heap.size w w' := sign_c _ 0 w (isInt_zero w)
/-- rows of numbers that may be written, each with a block from a place on, below another -/
def WGrid (lo hi : Nat) (w : World) (v : Value) (g : Grid) : Prop :=
  ∃ a c, v = .slice a g.length c ∧ ∀ k, k < g.length → ∃ b off u, a = some ⟨b, off, none⟩ ∧ w.cell? ⟨b, off + k, none⟩ = some u ∧ typOf w b = some 59 ∧ WRow lo w u (g.getD k []).length ∧ ∀ q, Own1 u q → q < hi
theorem OwnL.wgrid {base : Nat} {w0 w : World} {v : Value} {g : Grid} (h : OwnL 59 (RowO IsInt 36 base) w0 w v g) : WGrid base w.heap.size w v g := by
  obtain ⟨a, c, rfl⟩ := h.ex
  refine ⟨a, c, rfl, fun k hk => ?_⟩
  obtain ⟨_, _, e, _, _, hv⟩ := h.isL
  cases e
  rcases hv with hv | ⟨b, off, rfl, _, ht, hv⟩
  · rw [hv] at hk; simp at hk
  · obtain ⟨u, hu, hr⟩ := hv k hk
    have e2 : g[k] = g.getD k [] := by simp [hk]
    rw [e2] at hr
    refine ⟨b, off, u, rfl, hu, ht, hr.wrow, fun q hq => ?_⟩
    obtain ⟨m, c', rfl⟩ := hq
    rcases hr.wrow with ⟨e, _⟩ | ⟨g', cap, cs, e, _, hh, _⟩
    · cases e
    · cases e
      rcases Nat.lt_or_ge q w.heap.size with h | h
      · exact h
      · rw [Array.getElem?_eq_none (by omega)] at hh; cases hh
theorem WGrid.keep {lo hi : Nat} {w w' : World} {v : Value} {g : Grid} (h : WGrid lo hi w v g) (k : Kp (· ≠ 36) w w') (s : Shp w w') : WGrid lo hi w' v g := by
  obtain ⟨a, c, rfl, h⟩ := h
  refine ⟨a, c, rfl, fun i hi => ?_⟩
  obtain ⟨b, off, u, rfl, hu, ht, hr, hq⟩ := h i hi
  exact ⟨b, off, u, rfl, k.cell ht (by decide) hu, k.typ ht (by decide), hr.shp s, hq⟩
theorem WGrid.lo {lo lo' hi : Nat} {w : World} {v : Value} {g : Grid} (h : WGrid lo hi w v g) (hl : lo' ≤ lo) : WGrid lo' hi w v g := by
  obtain ⟨a, c, rfl, h⟩ := h
  refine ⟨a, c, rfl, fun i hi => ?_⟩
  obtain ⟨b, off, u, e, hu, ht, hr, hq⟩ := h i hi
  refine ⟨b, off, u, e, hu, ht, ?_, hq⟩
  rcases hr with hr | ⟨g', cap, cs, e, hg, hh⟩
  · exact .inl hr
  · exact .inr ⟨g', cap, cs, e, Nat.le_trans hl hg, hh⟩
/-- what is written into rows between two places -/
structure Wrs (lo hi : Nat) (a b : World) : Prop where
  kp : Kp (· ≠ 36) a b
  shp : Shp a b
  out : Out (fun q => lo ≤ q ∧ q < hi) a b
theorem Wrs.refl (lo hi : Nat) (a : World) : Wrs lo hi a a := ⟨Kp.refl _ _, Shp.refl _, Out.refl _ _⟩
theorem Wrs.below {lo hi : Nat} {a b c : World} (h : Wrs lo hi a b) (k : Below b.heap.size b c) : Wrs lo hi a c := ⟨h.kp.below k, h.shp.below k, h.out.below k⟩
theorem Wrs.set {lo hi : Nat} {a b : World} (h : Wrs lo hi a b) {p : Addr} (ht : typOf b p.block = some 36) (h1 : lo ≤ p.block) (h2 : p.block < hi) (u : Value) : Wrs lo hi a (b.setCell p u) :=
  ⟨h.kp.set (fun t e k => k (by rw [ht] at e; exact (Option.some.inj e).symm)) u, h.shp.set p u, h.out.set (fun _ => ⟨h1, h2⟩) u⟩
theorem Wrs.app {lo hi : Nat} {a b c : World} (h : Wrs lo hi a b) {v : Value} (s : Shp b c) (o : Out (Own1 v) b c) (k : Kp (· ≠ 36) b c) (hq : ∀ q, Own1 v q → lo ≤ q ∧ q < hi) : Wrs lo hi a c :=
  ⟨h.kp.trans k, h.shp.trans s, h.out.then o fun q _ hx => hq q hx⟩
theorem WRow.lo {lo : Nat} {w : World} {u : Value} {m : Nat} (h : WRow lo w u m) : ∀ q, Own1 u q → lo ≤ q := fun q hq => by
  obtain ⟨m', c', rfl⟩ := hq
  rcases h with ⟨e, _⟩ | ⟨g', cap, cs, e, hg, _⟩
  · cases e
  · cases e; exact hg
theorem WRow.at2 {lo : Nat} {w : World} {v : Value} {m k : Nat} (h : WRow lo w v m) (hk : k < m) : ∃ g cap x y, v = .slice (some ⟨g, 0, none⟩) m cap ∧ lo ≤ g ∧ w.cell? ⟨g, k * 2, none⟩ = some x ∧ w.cell? ⟨g, k * 2 + 1, none⟩ = some y ∧ w.frozen? ⟨g, k * 2, none⟩ = false ∧ w.frozen? ⟨g, k * 2 + 1, none⟩ = false ∧ typOf w g = some 36 := by
  obtain ⟨g, cap, x, y, e, h1, h2, h3, h4, h5⟩ := h.at hk
  refine ⟨g, cap, x, y, e, h1, h2, h3, h4, h5, ?_⟩
  rcases h with ⟨e2, _⟩ | ⟨g', cap', cs, e2, _, hh, _⟩
  · rw [e] at e2; cases e2
  · rw [e] at e2; cases e2
    unfold typOf; rw [hh]
theorem Wrs.lim {lo hi : Nat} {a b : World} (h : Wrs lo hi a b) : Lim a b := h.kp.lim (by decide)
set_option maxRecDepth 100000 in
set_option maxHeartbeats 16000000 in
theorem matrixMakes_h (vg : Value) (g : Grid) (i j : Int) (w : World) (ha : GridI w vg g) (hla : ∀ k, k < g.length → (g.getD k []).length ≤ 1048576) :
    Calls Tryz.prog 4 #[vg, .int .i64 i, .int .i64 j] w fun e w' => e = .returned (.bool true) ∧ Below w.heap.size w w' := by
  have HG := Lib.hid (And.intro ha (And.intro hla (i64_bdM2 ha)))
  obtain ⟨ga, gc, rfl, -⟩ := ha
  have hB := Below.refl w.heap.size w
  clear hla
  obtain ⟨n, hn⟩ : ∃ n, g.length = n := ⟨_, rfl⟩
  have HN := Lib.hid hn
  rw [hn] at HG ⊢
  clear hn
  go_enter Tryz.func4, Tryz.ntmps4
  go_wp2_with fail
  (with_reducible refine (works_c _).mono ?_)
  rintro e w1 ⟨rfl, hb1⟩
  have hB1 : Below w.heap.size w w1 := bthen (by repeat (first | exact Below.refl _ _ | exact hB | refine Below.drew ?_ | refine below_drewN ?_ _ | refine bset ?_ (by simp <;> omega) _ | refine bal ?_ _)) hb1
  have HL1 := Lib.hid hB1.size
  clear hb1 hB
  by_cases h64 : 64 < n
  · have hI : (64 : Int) < (n : Int) := by omega
    go_wp2
    go_ret
    exact ⟨rfl, by repeat (first | exact Below.refl _ _ | exact hB1 | refine Below.drew ?_ | refine below_drewN ?_ _ | refine bset ?_ (by simp <;> omega) _ | refine bal ?_ _)⟩
  have hI64 : ¬ (64 : Int) < (n : Int) := by omega
  have hn64 : n ≤ 64 := by omega
  have RC := Lib.hid (fun V (qB : Below w1.heap.size w1 V) => rows5_c (.slice ga n gc) g V (HG.out.1.keep (bthen hB1 qB)) (by rw [HN.out]; omega) (by rw [HN.out]; exact HG.out.2.1))
  have hBw := Below.refl w1.heap.size w1
  clear h64
  go_wp2_with fail
  (with_reducible refine (RC.out _ ?_).mono ?_); (repeat (first | exact Below.refl _ _ | exact hBw | refine Below.drew ?_ | refine below_drewN ?_ _ | refine bset ?_ (by simp <;> omega) _ | refine bal ?_ _))
  rintro e w2 ⟨⟨u, rfl, hu⟩, hb2⟩
  have hk2 : Below w1.heap.size w1 w2 := bthen (by repeat (first | exact Below.refl _ _ | exact hBw | refine Below.drew ?_ | refine below_drewN ?_ _ | refine bset ?_ (by simp <;> omega) _ | refine bal ?_ _)) hb2
  have HW := Lib.hid (hu.wgrid.lo (show w1.heap.size ≤ _ from (show Below w1.heap.size w1 _ by repeat (first | exact Below.refl _ _ | exact hBw | refine Below.drew ?_ | refine below_drewN ?_ _ | refine bset ?_ (by simp <;> omega) _ | refine bal ?_ _)).size))
  have HU := Lib.hid (show IsL 59 (PRow 0) 0 w2 u g from (hu.isL.mono fun u x h => h.row.rebase (Nat.zero_le _)).rebase (Nat.zero_le _))
  obtain ⟨ua, uc, rfl⟩ := hu.ex
  rw [HN.out] at HW HU ⊢
  have NC := Lib.hid (fun V (qB : Below w2.heap.size w2 V) => newM_c (.slice ua n uc) g V (HU.out.keep (prs_prow 0) qB) (fun i hi => Nat.le_trans (HG.out.2.1 i (by rw [← HN.out]; exact hi)) (by decide)))
  have hB2 := bthen hB1 hk2
  have hBw := Below.refl w2.heap.size w2
  clear hb2 RC hk2 hu hI64 hB1
  go_wp2_with fail
  (with_reducible refine (NC.out _ ?_).mono ?_); (repeat (first | exact Below.refl _ _ | exact hBw | refine Below.drew ?_ | refine below_drewN ?_ _ | refine bset ?_ (by simp <;> omega) _ | refine bal ?_ _))
  intro e w3 hP
  obtain ⟨hP, hb3⟩ := hP
  have hk3 : Below w2.heap.size w2 w3 := bthen (by repeat (first | exact Below.refl _ _ | exact hBw | refine Below.drew ?_ | refine below_drewN ?_ _ | refine bset ?_ (by simp <;> omega) _ | refine bal ?_ _)) hb3
  have hsz : w2.heap.size ≤ _ := (show Below w2.heap.size w2 _ by repeat (first | exact Below.refl _ _ | exact hBw | refine Below.drew ?_ | refine below_drewN ?_ _ | refine bset ?_ (by simp <;> omega) _ | refine bal ?_ _)).size
  obtain ⟨G, ma, mn, mc, ne, rfl, hm, hne⟩ : ∃ (G : Grid) (ma : Option Addr) (mn mc : Nat) (ne : Int), e = .returned (.tuple #[.agg #[.slice ma mn mc], .int .i64 ne]) ∧ IsM w2.heap.size w3 (.agg #[.slice ma mn mc]) G ∧ ne = fitsE g ∧ ((fitsE g = 0 ∧ G = g) ∨ (fitsE g ≠ 0 ∧ G = [] ∧ ma = none ∧ mn = 0 ∧ mc = 0)) := by
    rcases hP with ⟨h0, v, rfl, hv⟩ | ⟨h0, rfl⟩
    · have hv := hv.rebase hsz
      obtain ⟨a, c, rfl⟩ := hv.lit
      exact ⟨g, a, _, c, 0, rfl, hv, h0.symm, .inl ⟨h0, rfl⟩⟩
    · exact ⟨[], none, 0, 0, _, rfl, IsM.nil _ _, rfl, .inr ⟨h0, rfl, rfl, rfl, rfl⟩⟩
  have HM := Lib.hid hm
  have HNE := Lib.hid hne
  obtain ⟨E, hE⟩ : ∃ E, fitsE g = E := ⟨_, rfl⟩
  have HE := Lib.hid hE
  rw [hE] at HNE
  have HB3 := Lib.hid (bthen hB2 hk3)
  have HK3 := Lib.hid hk3
  have hB := bthen hB2 hk3
  clear NC hb3 hP hsz hm hne hBw hE hk3 hB2 HU
  have hBw := Below.refl w3.heap.size w3
  have hne2 := HNE.out.1
  subst hne2
  have TC := Lib.hid (fun V (qB : Below w3.heap.size w3 V) => grid5_c (.slice ga n gc) g V (HG.out.1.keep (bthen HB3.out qB)) (by rw [HN.out]; omega) (by rw [HN.out]; exact HG.out.2.1))
  go_wp2_with fail
  (with_reducible refine (TC.out _ ?_).mono ?_); (repeat (first | exact Below.refl _ _ | exact hBw | refine Below.drew ?_ | refine below_drewN ?_ _ | refine bset ?_ (by simp <;> omega) _ | refine bal ?_ _))
  rintro e w4 ⟨⟨rv, rfl, hr⟩, hb4⟩
  have hk4 : Below w3.heap.size w3 w4 := bthen (by repeat (first | exact Below.refl _ _ | exact hBw | refine Below.drew ?_ | refine below_drewN ?_ _ | refine bset ?_ (by simp <;> omega) _ | refine bal ?_ _)) hb4
  have HTM := Lib.hid (show typOf w4 w3.heap.size = some 27 from typ_keep (typ_fresh rfl) hb4)
  have m0 : w4.cell? ⟨w3.heap.size, 0, none⟩ = some (.slice ma mn mc) := bkeep hb4 (by simp [go_sem])
  have HR := Lib.hid (show RefM w4 rv g from (hr.isL.mono fun u x h => h.row.rebase (Nat.zero_le _)).rebase (Nat.zero_le _))
  obtain ⟨ra, rc, rfl⟩ := hr.ex
  rw [HN.out] at HR ⊢
  have hB4 := bthen hB hk4
  have zm := cell_lt m0
  clear TC hb4 hr hBw hB
  have hBw := Below.refl w4.heap.size w4
  have FC := Lib.hid (fun V (qB : Below w4.heap.size w4 V) => rfits_c (.slice ra n rc) g V (HR.out.keep qB) (by rw [HN.out]; omega))
  rw [HE.out] at FC
  go_wp2_with fail
  (with_reducible refine (FC.out _ ?_).mono ?_); (repeat (first | exact Below.refl _ _ | exact hBw | refine Below.drew ?_ | refine below_drewN ?_ _ | refine bset ?_ (by simp <;> omega) _ | refine bal ?_ _))
  rintro e w5 ⟨rfl, hb5⟩
  have hk5 : Below w4.heap.size w4 w5 := bthen (by repeat (first | exact Below.refl _ _ | exact hBw | refine Below.drew ?_ | refine below_drewN ?_ _ | refine bset ?_ (by simp <;> omega) _ | refine bal ?_ _)) hb5
  have hk35 := bthen hk4 hk5
  have hk25 := bthen HK3.out hk35
  have HW5 := Lib.hid (HW.out.keep (Kp.of_below _ hk25) (Shp.of_below hk25))
  have HT5 := Lib.hid (typ_keep HTM.out hk5)
  have HM0 := Lib.hid (bkeep hk5 m0)
  have HM5 := Lib.hid (HM.out.keep hk35)
  have HR5 := Lib.hid (HR.out.keep hk5)
  have HB5 := Lib.hid (bthen hB4 hk5)
  clear FC hb5 hBw m0 zm hk4 hk5 hk35 hk25 HW HTM HM HR HB3 HK3 hB4
  go_wp2
  go_loopw [39] (fun x wr => ∃ k : Nat, k ≤ n ∧ x = .int .i64 k ∧ Hid (Wrs w1.heap.size w2.heap.size w5 wr)) (fun x _ => n - (intOf x).toNat)
  case atStart => exact ⟨0, Nat.zero_le _, rfl, by first | exact Lib.hid (Wrs.refl _ _ _) | exact Lib.hid ((Wrs.refl _ _ _).below (Below.refl _ _).drew)⟩
  case round =>
    obtain ⟨k, hk, rfl, hW⟩ := hrel
    by_cases hlt : k < n
    · have hltI : (k : Int) < (n : Int) := by omega
      have HLT := Lib.hid hlt
      obtain ⟨_, _, e, hv⟩ := HW5.out
      cases e
      obtain ⟨b, off, u, e, hu5, ht5, hr5, hq5⟩ := hv k (by rw [HN.out]; exact hlt)
      cases e
      have hM := HG.out.2.1 k hlt
      obtain ⟨M, hME⟩ : ∃ M, (g.getD k []).length = M := ⟨_, rfl⟩
      rw [hME] at hr5 hM
      obtain ⟨xa, xc, rfl⟩ := hr5.ex
      have HR5' := Lib.hid (And.intro hr5 hq5)
      have u0 := hW.out.kp.cell ht5 (by decide) hu5
      have zu := cell_lt u0
      clear hv hu5 ht5 hr5 hq5 hME hlt
      go_wp2
      go_loopw [45] (fun x wq => ∃ t : Nat, t ≤ M ∧ x = .int .i64 t ∧ Hid (Wrs w1.heap.size w2.heap.size w5 wq)) (fun x _ => M - (intOf x).toNat)
      case atStart => exact ⟨0, Nat.zero_le _, rfl, by first | exact hW | exact Lib.hid (hW.out.below (Below.refl _ _).drew)⟩
      case round =>
        obtain ⟨t, ht, rfl, hWq⟩ := hrel
        rename World => wq
        by_cases htt : t < M
        · have hltT : (t : Int) < (M : Int) := by omega
          have HTT := Lib.hid htt
          have HRq := Lib.hid (HR5'.out.1.shp hWq.out.shp)
          have oc := fun W => of_c 77 W (by decide) (by decide)
          have hBq := Below.refl wq.heap.size wq
          go_wp2_with fail
          (with_reducible refine (oc _).mono ?_)
          rintro e w6 ⟨⟨z, rfl, hz⟩, hb6⟩
          have hk6 : Below wq.heap.size wq w6 := bthen (by repeat (first | exact Below.refl _ _ | exact hBq | refine Below.drew ?_ | refine below_drewN ?_ _ | refine bset ?_ (by simp <;> omega) _ | refine bal ?_ _)) hb6
          have hW6 := hWq.out.below hk6
          obtain ⟨q, cap, x0, x1, e, hqlo, c0, c1, c0f, c1f, hty⟩ := (HRq.out.shp (Shp.of_below hk6)).at2 htt
          cases e
          have hqhi := HR5'.out.2 q (.mk' rfl)
          obtain ⟨zn, za, zl, zc, rfl⟩ := IsInt.lit' hz
          have zq := cell_lt c0
          have HW7 := Lib.hid ((hW6.set (p := ⟨q, t * 2, none⟩) hty hqlo hqhi (.bool zn)).set (p := ⟨q, t * 2 + 1, none⟩) (by rw [typ_set]; exact hty) hqlo hqhi (.slice za zl zc))
          have hlT := HTT.out
          clear oc hz hb6 hk6 hW6 hty hqlo hqhi hBq hWq HRq htt
          go_wp2
          exact ⟨⟨t + 1, hlT, by go_num, HW7⟩, meas hlT (by go_num) rfl⟩
        · obtain rfl : M = t := by omega
          have hltT : ¬ (M : Int) < (M : Int) := by omega
          have HRq := Lib.hid (HR5'.out.1.shp hWq.out.shp)
          have oc := fun W => of_c 78 W (by decide) (by decide)
          have hBq := Below.refl wq.heap.size wq
          go_wp2_with fail
          (with_reducible refine (oc _).mono ?_)
          rintro e w6 ⟨⟨z, rfl, hz⟩, hb6⟩
          have hk6 : Below wq.heap.size wq w6 := bthen (by repeat (first | exact Below.refl _ _ | exact hBq | refine Below.drew ?_ | refine below_drewN ?_ _ | refine bset ?_ (by simp <;> omega) _ | refine bal ?_ _)) hb6
          have hW6 := hWq.out.below hk6
          have HR6 := Lib.hid (HRq.out.shp (Shp.of_below hk6))
          obtain ⟨zn, za, zl, zc, rfl⟩ := IsInt.lit' hz
          clear oc hz hb6
          go_wp2_with (at_builtin; refine app_wr2 (by rfl) (by rfl) (HR6.out.shp (Shp.of_below (bal (Below.refl _ _) _))) (by rfl) (by omega) (by rfl) (cell_new (by simp) rfl) (cell_new (by simp) rfl) (by rfl) (by rfl) ?_)
          intro v' w8 hS hO hK
          have HW8 := Lib.hid ((hW6.below (bal (Below.refl _ _) _)).app hS hO hK (fun q hq => ⟨HR5'.out.1.lo q hq, HR5'.out.2 q hq⟩))
          have hlK := HLT.out
          clear hS hO hK hW6 hk6 HR6 hBq hWq HRq
          go_wp2
          exact ⟨⟨k + 1, hlK, by go_num, HW8⟩, meas hlK (by go_num) rfl⟩
    · obtain rfl : n = k := by omega
      have hltI : ¬ (n : Int) < (n : Int) := by omega
      have hBr : Below w.heap.size w wr := HB5.out.trans (hW.out.out.to_below (fun q hq _ hx => by have h1 := hx.1; have h2 := HL1.out; omega) HB5.out.size)
      have hMr := HM5.out.out hW.out.out (fun q hq hx => by have := hx.2; omega) hW.out.lim
      have hRr : RefM wr (.slice ra n rc) g := IsL.kp prs_rrow HR5.out hW.out.kp (by rintro t (rfl | rfl) <;> decide) (by decide)
      have m0 := hW.out.kp.cell HT5.out (by decide) HM0.out
      have HMr := Lib.hid hMr
      have HRr := Lib.hid hRr
      have zm := cell_lt m0
      have hBw := Below.refl wr.heap.size wr
      have hBB := Lib.hid hBr
      clear hW hMr hRr HM5 HR5 HT5 HM0 HB5 HW5 HL1
      rcases HNE.out.2 with ⟨h0, hG⟩ | ⟨h0, hG, hma, hmn, hmc⟩
      · subst hG
        subst h0
        obtain ⟨hs, hrc⟩ := fits_yes2 HE.out
        have MM := Lib.hid (show Mt 64 G (.agg #[.slice ma mn mc]) wr from ⟨HMr.out.rebase (Nat.zero_le _), hrc, hs, HG.out.2.2⟩)
        have hB := hBr
        clear hs hrc
        have TC := Lib.hid (fun V (qB : Below wr.heap.size wr V) => mComes_yes (.agg #[.slice ma mn mc]) (.slice ra n rc) G 64 V (MM.out.m.keep qB) (HRr.out.keep qB) MM.out.rc (by have := MM.out.sz; omega) (by have := MM.out.sz; omega) MM.out.bd (by decide))
        go_wp2_with fail
        (with_reducible refine (TC.out _ ?_).mono ?_); (repeat (first | exact Below.refl _ _ | exact hBw | refine Below.drew ?_ | refine below_drewN ?_ _ | refine bset ?_ (by simp <;> omega) _ | refine bal ?_ _))
        rintro e w6 ⟨rfl, hb6⟩
        have hk : Below wr.heap.size wr w6 := bthen (by repeat (first | exact Below.refl _ _ | exact hBw | refine Below.drew ?_ | refine below_drewN ?_ _ | refine bset ?_ (by simp <;> omega) _ | refine bal ?_ _)) hb6
        have m0 : w6.cell? ⟨w3.heap.size, 0, none⟩ = some (.slice ma mn mc) := bkc hb6
        have zm0 := cell_lt m0
        have hB : Below w.heap.size w w6 := bthen (by repeat (first | exact Below.refl _ _ | exact hB | refine Below.drew ?_ | refine below_drewN ?_ _ | refine bset ?_ (by simp <;> omega) _ | refine bal ?_ _)) hb6
        have hz : w.heap.size ≤ w6.heap.size := hB.size
        clear TC hBw hb6
        have hBw := Below.refl w6.heap.size w6
        replace MM := Lib.hid (MM.out.keep hk)
        replace HRr := Lib.hid (HRr.out.keep hk)
        have hgn := Lib.hid (show G.length = n from HN.out)
        have hmn : n = mn := by
          obtain ⟨_, _, e, _⟩ := MM.out.m
          cases e
          exact HN.out.symm
        subst hmn
        clear hk
        by_cases hi0 : 0 ≤ i
        · have hi1 : ¬ i < 0 := by omega
          by_cases hi2 : i < (n : Int)
          · obtain ⟨i', hi'⟩ := Int.eq_ofNat_of_zero_le hi0
            subst hi'
            have hiN := Lib.hid (show i' < n from by omega)
            obtain ⟨M, hM⟩ : ∃ M, cols G = M := ⟨_, rfl⟩
            have HMC := Lib.hid hM
            have HRL := Lib.hid (show (G.getD i' []).length = M from by rw [MM.out.rc i' (by rw [hgn.out]; exact hiN.out)]; exact hM)
            have hAt := Lib.hid (fun V (qB : Below w6.heap.size w6 V) => atAny_c (.agg #[.slice ma n mc]) G i' j M V (MM.out.m.keep qB) MM.out.rc (by rw [hgn.out]; exact hiN.out) HMC.out)
            have hRow := Lib.hid (fun V (qB : Below w6.heap.size w6 V) => rowW_c (.agg #[.slice ma n mc]) G i' M V (MM.out.m.keep qB) (by rw [hgn.out]; exact hiN.out) (by rw [hgn.out]; have := hn64; omega) (by have := MM.out.lens.2 i' (by rw [hgn.out]; exact hiN.out); omega) HRL.out)
            have hM16 : M ≤ 16 := by rw [← HMC.out]; exact MM.out.sz.2.2.2
            clear hgn hM
            have TC := Lib.hid (fun V (qB : Below w6.heap.size w6 V) => hAt.out V qB)
            go_wp2_with fail
            (with_reducible refine (TC.out _ ?_).mono ?_); (repeat (first | exact Below.refl _ _ | exact hBw | refine Below.drew ?_ | refine below_drewN ?_ _ | refine bset ?_ (by simp <;> omega) _ | refine bal ?_ _))
            rintro e w7 ⟨⟨xn, xa, xl, xc, xf, rfl, hx⟩, hb7⟩
            have hk : Below w6.heap.size w6 w7 := bthen (by repeat (first | exact Below.refl _ _ | exact hBw | refine Below.drew ?_ | refine below_drewN ?_ _ | refine bset ?_ (by simp <;> omega) _ | refine bal ?_ _)) hb7
            have m0 : w7.cell? ⟨w3.heap.size, 0, none⟩ = some (.slice ma n mc) := bkc hb7
            have zm0 := cell_lt m0
            have hB : Below w.heap.size w w7 := bthen (by repeat (first | exact Below.refl _ _ | exact hB | refine Below.drew ?_ | refine below_drewN ?_ _ | refine bset ?_ (by simp <;> omega) _ | refine bal ?_ _)) hb7
            have hz : w.heap.size ≤ w7.heap.size := hB.size
            clear TC hBw hb7
            have hBw := Below.refl w7.heap.size w7
            have hk67 := Lib.hid hk
            replace MM := Lib.hid (MM.out.keep hk)
            replace HRr := Lib.hid (HRr.out.keep hk)
            have HX := Lib.hid hx
            have hz37 := Lib.hid (show w3.heap.size < w7.heap.size from cell_lt m0)
            have HB7 := Lib.hid (show Below w.heap.size w w7 by repeat (first | exact Below.refl _ _ | exact hB | refine Below.drew ?_ | refine below_drewN ?_ _ | refine bset ?_ (by simp <;> omega) _ | refine bal ?_ _))
            clear hk hx
            have TC := Lib.hid (fun V (qB : Below w7.heap.size w7 V) => hRow.out V (bthen hk67.out qB))
            go_wp2_with fail
            (with_reducible refine (TC.out _ ?_).mono ?_); (repeat (first | exact Below.refl _ _ | exact hBw | refine Below.drew ?_ | refine below_drewN ?_ _ | refine bset ?_ (by simp <;> omega) _ | refine bal ?_ _))
            rintro e w8 ⟨⟨la, lc, rfl, hwr⟩, hb8⟩
            have hk : Below w7.heap.size w7 w8 := bthen (by repeat (first | exact Below.refl _ _ | exact hBw | refine Below.drew ?_ | refine below_drewN ?_ _ | refine bset ?_ (by simp <;> omega) _ | refine bal ?_ _)) hb8
            have m0 : w8.cell? ⟨w3.heap.size, 0, none⟩ = some (.slice ma n mc) := bkc hb8
            have zm0 := cell_lt m0
            have x0 : w8.cell? ⟨w7.heap.size, 0, none⟩ = some (.bool xn) := bkc hb8
            have zx0 := cell_lt x0
            have x1 : w8.cell? ⟨w7.heap.size, 1, none⟩ = some (.slice xa xl xc) := bkc hb8
            have hB : Below w.heap.size w w8 := bthen (by repeat (first | exact Below.refl _ _ | exact hB | refine Below.drew ?_ | refine below_drewN ?_ _ | refine bset ?_ (by simp <;> omega) _ | refine bal ?_ _)) hb8
            have hz : w.heap.size ≤ w8.heap.size := hB.size
            clear TC hBw hb8
            have hBw := Below.refl w8.heap.size w8
            have HK8 := Lib.hid hk
            have HW8 := Lib.hid (WRow.down hwr (show w7.heap.size + 1 ≤ _ from by simp [go_sem]))
            have HB8 := Lib.hid (show Below w.heap.size w w8 by repeat (first | exact Below.refl _ _ | exact hB | refine Below.drew ?_ | refine below_drewN ?_ _ | refine bset ?_ (by simp <;> omega) _ | refine bal ?_ _))
            have hnq := fun W => run_neq_slice_nil (P := Tryz.prog) (w := W) 59 36 la M lc Tryz.underlying59
            have hz8 : w7.heap.size + 1 ≤ w8.heap.size := by have := cell_lt x0; omega
            have HC8 := Lib.hid (And.intro m0 (And.intro x0 x1))
            clear hk hwr hAt hRow hB hBw m0 x0 x1 hk67
            go_wp2
            go_loopw [105] (fun x wr => ∃ k : Nat, k ≤ M ∧ x = .int .i64 k ∧ Hid (Below (w7.heap.size + 1) w8 wr) ∧ Hid (WRow (w7.heap.size + 1) wr (.slice la M lc) M)) (fun x _ => M - (intOf x).toNat)
            case atStart => exact ⟨0, Nat.zero_le _, rfl, Lib.hid (Below.refl _ _), HW8⟩
            case round =>
              rename World => wq
              obtain ⟨k, hk, rfl, hBq, hWq⟩ := hrel
              by_cases hlt : k < M
              · have hltI : (k : Int) < (M : Int) := by omega
                have HLT := Lib.hid hlt
                have oc := fun W => of_c 79 W (by decide) (by decide)
                have hBw := Below.refl wq.heap.size wq
                go_wp2_with fail
                (with_reducible refine (oc _).mono ?_)
                rintro e w9 ⟨⟨z, rfl, hz⟩, hb9⟩
                have hk9 : Below wq.heap.size wq w9 := bthen (by repeat (first | exact Below.refl _ _ | exact hBw | refine Below.drew ?_ | refine below_drewN ?_ _ | refine bset ?_ (by simp <;> omega) _ | refine bal ?_ _)) hb9
                have HW9 := hWq.out.shp (Shp.of_below hk9)
                obtain ⟨q, cap, c0, c1, e, hqlo, d0, d1, d0f, d1f, hty⟩ := HW9.at2 hlt
                cases e
                obtain ⟨zn, za, zl, zc, rfl⟩ := IsInt.lit' hz
                have zq := cell_lt d0
                have HB10 := Lib.hid (Below.setCell (Below.setCell (hBq.out.trans (hk9.mono (Nat.le_trans hz8 hBq.out.size))) (p := ⟨q, k * 2, none⟩) hqlo (.bool zn)) (p := ⟨q, k * 2 + 1, none⟩) hqlo (.slice za zl zc))
                have HW10 := Lib.hid (HW9.shp (((Shp.refl w9).set ⟨q, k * 2, none⟩ (.bool zn)).set ⟨q, k * 2 + 1, none⟩ (.slice za zl zc)))
                have hl := HLT.out
                clear oc hz hb9 hk9 HW9 hty hqlo hBw hlt hBq hWq
                go_wp2
                exact ⟨⟨k + 1, hl, by go_num, HB10, HW10⟩, meas hl (by go_num) rfl⟩
              · obtain rfl : M = k := by omega
                have hltI : ¬ (M : Int) < (M : Int) := by omega
                have hk7 : Below w7.heap.size w7 wq := HK8.out.trans (hBq.out.mono (Nat.le_succ _))
                have hB : Below w.heap.size w wq := HB8.out.trans (hBq.out.mono (by have := HB7.out.size; omega))
                have m0 := bkeepN hBq.out HC8.out.1 (show w3.heap.size < w7.heap.size + 1 by have := hz37.out; omega)
                have x0 := bkeepN hBq.out HC8.out.2.1 (Nat.lt_succ_self _)
                have x1 := bkeepN hBq.out HC8.out.2.2 (Nat.lt_succ_self _)
                have zx := cell_lt x0
                have zm := cell_lt m0
                replace MM := Lib.hid (MM.out.keep hk7)
                replace HRr := Lib.hid (HRr.out.keep hk7)
                have hBw := Below.refl wq.heap.size wq
                replace HX := Lib.hid (HX.out.keep hk7)
                clear hk7 hBq hWq HC8 HB8 HB7 HK8 HW8 hnq hlt hz37
                have TC := Lib.hid (fun V (qB : Below wq.heap.size wq V) => (MM.out.keep qB).mis (HRr.out.keep qB))
                go_wp2_with fail
                (with_reducible refine (TC.out _ ?_).mono ?_); (repeat (first | exact Below.refl _ _ | exact hBw | refine Below.drew ?_ | refine below_drewN ?_ _ | refine bset ?_ (by simp <;> omega) _ | refine bal ?_ _))
                rintro e w9 ⟨rfl, hb9⟩
                have hk : Below wq.heap.size wq w9 := bthen (by repeat (first | exact Below.refl _ _ | exact hBw | refine Below.drew ?_ | refine below_drewN ?_ _ | refine bset ?_ (by simp <;> omega) _ | refine bal ?_ _)) hb9
                have m0 : w9.cell? ⟨w3.heap.size, 0, none⟩ = some (.slice ma n mc) := bkc hb9
                have zm0 := cell_lt m0
                have x0 : w9.cell? ⟨w7.heap.size, 0, none⟩ = some (.bool xn) := bkc hb9
                have zx0 := cell_lt x0
                have x1 : w9.cell? ⟨w7.heap.size, 1, none⟩ = some (.slice xa xl xc) := bkc hb9
                have hB : Below w.heap.size w w9 := bthen (by repeat (first | exact Below.refl _ _ | exact hB | refine Below.drew ?_ | refine below_drewN ?_ _ | refine bset ?_ (by simp <;> omega) _ | refine bal ?_ _)) hb9
                have hz : w.heap.size ≤ w9.heap.size := hB.size
                clear TC hBw hb9
                have hBw := Below.refl w9.heap.size w9
                replace MM := Lib.hid (MM.out.keep hk); replace HRr := Lib.hid (HRr.out.keep hk); replace HX := Lib.hid (HX.out.keep hk)
                clear hk
                have TC := Lib.hid (fun V (qB : Below w9.heap.size w9 V) => (MM.out.keep qB).mtxt)
                go_wp2_with fail
                (with_reducible refine (TC.out _ ?_).mono ?_); (repeat (first | exact Below.refl _ _ | exact hBw | refine Below.drew ?_ | refine below_drewN ?_ _ | refine bset ?_ (by simp <;> omega) _ | refine bal ?_ _))
                rintro e w10 ⟨rfl, hb10⟩
                have hk : Below w9.heap.size w9 w10 := bthen (by repeat (first | exact Below.refl _ _ | exact hBw | refine Below.drew ?_ | refine below_drewN ?_ _ | refine bset ?_ (by simp <;> omega) _ | refine bal ?_ _)) hb10
                have m0 : w10.cell? ⟨w3.heap.size, 0, none⟩ = some (.slice ma n mc) := bkc hb10
                have zm0 := cell_lt m0
                have x0 : w10.cell? ⟨w7.heap.size, 0, none⟩ = some (.bool xn) := bkc hb10
                have zx0 := cell_lt x0
                have x1 : w10.cell? ⟨w7.heap.size, 1, none⟩ = some (.slice xa xl xc) := bkc hb10
                have hB : Below w.heap.size w w10 := bthen (by repeat (first | exact Below.refl _ _ | exact hB | refine Below.drew ?_ | refine below_drewN ?_ _ | refine bset ?_ (by simp <;> omega) _ | refine bal ?_ _)) hb10
                have hz : w.heap.size ≤ w10.heap.size := hB.size
                clear TC hBw hb10
                have hBw := Below.refl w10.heap.size w10
                replace MM := Lib.hid (MM.out.keep hk); replace HRr := Lib.hid (HRr.out.keep hk); replace HX := Lib.hid (HX.out.keep hk)
                clear hk
                have TC := Lib.hid (fun V (qB : Below w10.heap.size w10 V) => MM.out.rtxt (HRr.out.keep qB))
                go_wp2_with fail
                (with_reducible refine (TC.out _ ?_).mono ?_); (repeat (first | exact Below.refl _ _ | exact hBw | refine Below.drew ?_ | refine below_drewN ?_ _ | refine bset ?_ (by simp <;> omega) _ | refine bal ?_ _))
                rintro e w11 ⟨rfl, hb11⟩
                have hk : Below w10.heap.size w10 w11 := bthen (by repeat (first | exact Below.refl _ _ | exact hBw | refine Below.drew ?_ | refine below_drewN ?_ _ | refine bset ?_ (by simp <;> omega) _ | refine bal ?_ _)) hb11
                have m0 : w11.cell? ⟨w3.heap.size, 0, none⟩ = some (.slice ma n mc) := bkc hb11
                have zm0 := cell_lt m0
                have x0 : w11.cell? ⟨w7.heap.size, 0, none⟩ = some (.bool xn) := bkc hb11
                have zx0 := cell_lt x0
                have x1 : w11.cell? ⟨w7.heap.size, 1, none⟩ = some (.slice xa xl xc) := bkc hb11
                have hB : Below w.heap.size w w11 := bthen (by repeat (first | exact Below.refl _ _ | exact hB | refine Below.drew ?_ | refine below_drewN ?_ _ | refine bset ?_ (by simp <;> omega) _ | refine bal ?_ _)) hb11
                have hz : w.heap.size ≤ w11.heap.size := hB.size
                clear TC hBw hb11
                have hBw := Below.refl w11.heap.size w11
                replace MM := Lib.hid (MM.out.keep hk); replace HRr := Lib.hid (HRr.out.keep hk); replace HX := Lib.hid (HX.out.keep hk)
                clear hk
                have hss := str_same
                have TC := Lib.hid (fun V (qB : Below w11.heap.size w11 V) => (MM.out.keep qB).same (MM.out.keep qB) rfl)
                go_wp2_with fail
                (with_reducible refine (TC.out _ ?_).mono ?_); (repeat (first | exact Below.refl _ _ | exact hBw | refine Below.drew ?_ | refine below_drewN ?_ _ | refine bset ?_ (by simp <;> omega) _ | refine bal ?_ _))
                rintro e w12 ⟨rfl, hb12⟩
                have hk : Below w11.heap.size w11 w12 := bthen (by repeat (first | exact Below.refl _ _ | exact hBw | refine Below.drew ?_ | refine below_drewN ?_ _ | refine bset ?_ (by simp <;> omega) _ | refine bal ?_ _)) hb12
                have m0 : w12.cell? ⟨w3.heap.size, 0, none⟩ = some (.slice ma n mc) := bkc hb12
                have zm0 := cell_lt m0
                have x0 : w12.cell? ⟨w7.heap.size, 0, none⟩ = some (.bool xn) := bkc hb12
                have zx0 := cell_lt x0
                have x1 : w12.cell? ⟨w7.heap.size, 1, none⟩ = some (.slice xa xl xc) := bkc hb12
                have hB : Below w.heap.size w w12 := bthen (by repeat (first | exact Below.refl _ _ | exact hB | refine Below.drew ?_ | refine below_drewN ?_ _ | refine bset ?_ (by simp <;> omega) _ | refine bal ?_ _)) hb12
                have hz : w.heap.size ≤ w12.heap.size := hB.size
                clear TC hBw hb12
                have hBw := Below.refl w12.heap.size w12
                replace MM := Lib.hid (MM.out.keep hk); replace HRr := Lib.hid (HRr.out.keep hk); replace HX := Lib.hid (HX.out.keep hk)
                clear hk
                obtain ⟨c2, gb, go, sa, sc, e, hu, hpr⟩ := HRr.out.rrow (i := i') (by rw [HN.out]; exact hiN.out)
                rw [HN.out] at e
                cases e
                rw [HRL.out] at hu
                have hiI : (i' : Int) < (n : Int) := by have := hiN.out; omega
                have hiJ : i' < n := hiN.out
                have zu := cell_lt hu
                have hmp : M ≤ 16 := hM16
                rcases HX.out with ⟨j', hj', hjM, hxf, hxi⟩ | ⟨hjo, hxf, hxn, hxa, hxl, hxc⟩
                · subst hj' hxf
                  have hjI : (j' : Int) < (M : Int) := by omega
                  have hHP := Lib.hid hpr
                  obtain ⟨_, _, e, -, vr⟩ := hpr.view
                  cases e
                  obtain ⟨rb, ro, n4, a4, l4, c4, e, d0, d1, hy⟩ := vr j' (by rw [HRL.out]; exact hjM)
                  cases e
                  have SC := Lib.hid (fun V (q : Below w12.heap.size w12 V) => mSame_c (.agg #[.bool xn, .slice xa xl xc]) (.agg #[.bool n4, .slice a4 l4 c4]) (gat G i' j') 64 V (hxi.keep q) (hy.lim (.of_below q)) (MM.out.bd i' j') (by decide))
                  have zd := cell_lt d0
                  have HS := Lib.hid (show ∀ V, Below w12.heap.size w12 V → V.cell? ⟨w7.heap.size, 0, none⟩ = some (.bool xn) ∧ V.cell? ⟨w7.heap.size, 1, none⟩ = some (.slice xa xl xc) ∧ V.cell? ⟨gb, go + i', none⟩ = some (.slice (some ⟨rb, ro, none⟩) M sc) ∧ V.cell? ⟨rb, ro + j' * 2, none⟩ = some (.bool n4) ∧ V.cell? ⟨rb, ro + j' * 2 + 1, none⟩ = some (.slice a4 l4 c4) from fun V q => ⟨bkeep q x0, bkeep q x1, bkeep q hu, bkeep q d0, bkeep q d1⟩)
                  clear hy hxi vr hHP
                  go_wp2
                  go_region_held3 (fun V => V.cell? ⟨w7.heap.size, 0, none⟩ = some (.bool xn) ∧ V.cell? ⟨w7.heap.size, 1, none⟩ = some (.slice xa xl xc) ∧ V.cell? ⟨gb, go + i', none⟩ = some (.slice (some ⟨rb, ro, none⟩) M sc) ∧ V.cell? ⟨rb, ro + j' * 2, none⟩ = some (.bool n4) ∧ V.cell? ⟨rb, ro + j' * 2 + 1, none⟩ = some (.slice a4 l4 c4))
                    (first | (refine HS.out _ ?_; (repeat (first | exact Below.refl _ _ | exact hBw | refine Below.drew ?_ | refine below_drewN ?_ _ | refine bset ?_ (by simp <;> omega) _ | refine bal ?_ _)); done) | fail)
                    (first
                      | (go_at_call 11; refine (SC.out _ ?_).mono ?_; (repeat (first | exact Below.refl _ _ | exact hBw | refine Below.drew ?_ | refine below_drewN ?_ _ | refine bset ?_ (by simp <;> omega) _ | refine bal ?_ _)); rintro e w13 ⟨rfl, hb13⟩; (have hBd : Below w12.heap.size w12 w13 := bthen (by repeat (first | exact Below.refl _ _ | exact hBw | refine Below.drew ?_ | refine below_drewN ?_ _ | refine bset ?_ (by simp <;> omega) _ | refine bal ?_ _)) hb13; clear hBw; have hBw := hBd; clear hBd))
                      | fail)
                  all_goals
                    have hBf := bthen hB hBw
                    go_wp2
                    go_ret
                    exact ⟨rfl, by repeat (first | exact Below.refl _ _ | exact hBf | refine Below.drew ?_ | refine below_drewN ?_ _ | refine bset ?_ (by simp <;> omega) _ | refine bal ?_ _)⟩
                · subst hxf hxn hxa hxl hxc
                  by_cases hj0 : j < 0
                  ·
                    have TC := Lib.hid (fun V (qB : Below w12.heap.size w12 V) => sgn_zero0 V)
                    go_wp2_with fail
                    (with_reducible refine (TC.out _ ?_).mono ?_); (repeat (first | exact Below.refl _ _ | exact hBw | refine Below.drew ?_ | refine below_drewN ?_ _ | refine bset ?_ (by simp <;> omega) _ | refine bal ?_ _))
                    rintro e w13 ⟨rfl, hb13⟩
                    have hk : Below w12.heap.size w12 w13 := bthen (by repeat (first | exact Below.refl _ _ | exact hBw | refine Below.drew ?_ | refine below_drewN ?_ _ | refine bset ?_ (by simp <;> omega) _ | refine bal ?_ _)) hb13
                    have m0 : w13.cell? ⟨w3.heap.size, 0, none⟩ = some (.slice ma n mc) := bkc hb13
                    have zm0 := cell_lt m0
                    have hB : Below w.heap.size w w13 := bthen (by repeat (first | exact Below.refl _ _ | exact hB | refine Below.drew ?_ | refine below_drewN ?_ _ | refine bset ?_ (by simp <;> omega) _ | refine bal ?_ _)) hb13
                    have hz : w.heap.size ≤ w13.heap.size := hB.size
                    clear TC hBw hb13
                    have hBw := Below.refl w13.heap.size w13
                    go_wp2
                    go_ret
                    exact ⟨rfl, by repeat (first | exact Below.refl _ _ | exact hB | refine Below.drew ?_ | refine below_drewN ?_ _ | refine bset ?_ (by simp <;> omega) _ | refine bal ?_ _)⟩
                  · have hj1 : 0 ≤ j := by omega
                    have hjM : ¬ j < (M : Int) := by omega
                    have TC := Lib.hid (fun V (qB : Below w12.heap.size w12 V) => sgn_zero0 V)
                    go_wp2_with fail
                    (with_reducible refine (TC.out _ ?_).mono ?_); (repeat (first | exact Below.refl _ _ | exact hBw | refine Below.drew ?_ | refine below_drewN ?_ _ | refine bset ?_ (by simp <;> omega) _ | refine bal ?_ _))
                    rintro e w13 ⟨rfl, hb13⟩
                    have hk : Below w12.heap.size w12 w13 := bthen (by repeat (first | exact Below.refl _ _ | exact hBw | refine Below.drew ?_ | refine below_drewN ?_ _ | refine bset ?_ (by simp <;> omega) _ | refine bal ?_ _)) hb13
                    have m0 : w13.cell? ⟨w3.heap.size, 0, none⟩ = some (.slice ma n mc) := bkc hb13
                    have zm0 := cell_lt m0
                    have hB : Below w.heap.size w w13 := bthen (by repeat (first | exact Below.refl _ _ | exact hB | refine Below.drew ?_ | refine below_drewN ?_ _ | refine bset ?_ (by simp <;> omega) _ | refine bal ?_ _)) hb13
                    have hz : w.heap.size ≤ w13.heap.size := hB.size
                    clear TC hBw hb13
                    have hBw := Below.refl w13.heap.size w13
                    go_wp2
                    go_ret
                    exact ⟨rfl, by repeat (first | exact Below.refl _ _ | exact hB | refine Below.drew ?_ | refine below_drewN ?_ _ | refine bset ?_ (by simp <;> omega) _ | refine bal ?_ _)⟩
          · have hno := Lib.hid (show ¬ (0 ≤ i ∧ i < (G.length : Int) ∧ 0 ≤ j ∧ j < (cols G : Int)) ∧ ¬ (0 ≤ i ∧ i < (n : Int)) from ⟨fun h => hi2 (by rw [← hgn.out]; exact h.2.1), fun h => hi2 h.2⟩)
            have hAt := Lib.hid (fun V (qB : Below w6.heap.size w6 V) => atNo_c (.agg #[.slice ma n mc]) G i j V (MM.out.m.keep qB) MM.out.rc hno.out.1)
            have hRow := Lib.hid (fun V => rowNo_c ma n mc i V hno.out.2)
            clear hno hgn
            have TC := Lib.hid (fun V (qB : Below w6.heap.size w6 V) => hAt.out V qB)
            go_wp2_with fail
            (with_reducible refine (TC.out _ ?_).mono ?_); (repeat (first | exact Below.refl _ _ | exact hBw | refine Below.drew ?_ | refine below_drewN ?_ _ | refine bset ?_ (by simp <;> omega) _ | refine bal ?_ _))
            rintro e w7 ⟨rfl, hb7⟩
            have hk : Below w6.heap.size w6 w7 := bthen (by repeat (first | exact Below.refl _ _ | exact hBw | refine Below.drew ?_ | refine below_drewN ?_ _ | refine bset ?_ (by simp <;> omega) _ | refine bal ?_ _)) hb7
            have m0 : w7.cell? ⟨w3.heap.size, 0, none⟩ = some (.slice ma n mc) := bkc hb7
            have zm0 := cell_lt m0
            have hB : Below w.heap.size w w7 := bthen (by repeat (first | exact Below.refl _ _ | exact hB | refine Below.drew ?_ | refine below_drewN ?_ _ | refine bset ?_ (by simp <;> omega) _ | refine bal ?_ _)) hb7
            have hz : w.heap.size ≤ w7.heap.size := hB.size
            clear TC hBw hb7
            have hBw := Below.refl w7.heap.size w7
            replace MM := Lib.hid (MM.out.keep hk); replace HRr := Lib.hid (HRr.out.keep hk)
            clear hk
            have TC := Lib.hid (fun V (qB : Below w7.heap.size w7 V) => hRow.out V)
            go_wp2_with fail
            (with_reducible refine (TC.out _ ?_).mono ?_); (repeat (first | exact Below.refl _ _ | exact hBw | refine Below.drew ?_ | refine below_drewN ?_ _ | refine bset ?_ (by simp <;> omega) _ | refine bal ?_ _))
            rintro e w8 ⟨rfl, hb8⟩
            have hk : Below w7.heap.size w7 w8 := bthen (by repeat (first | exact Below.refl _ _ | exact hBw | refine Below.drew ?_ | refine below_drewN ?_ _ | refine bset ?_ (by simp <;> omega) _ | refine bal ?_ _)) hb8
            have m0 : w8.cell? ⟨w3.heap.size, 0, none⟩ = some (.slice ma n mc) := bkc hb8
            have zm0 := cell_lt m0
            have x0 : w8.cell? ⟨w7.heap.size, 0, none⟩ = some (.bool false) := bkc hb8
            have zx0 := cell_lt x0
            have x1 : w8.cell? ⟨w7.heap.size, 1, none⟩ = some (.slice none 0 0) := bkc hb8
            have hB : Below w.heap.size w w8 := bthen (by repeat (first | exact Below.refl _ _ | exact hB | refine Below.drew ?_ | refine below_drewN ?_ _ | refine bset ?_ (by simp <;> omega) _ | refine bal ?_ _)) hb8
            have hz : w.heap.size ≤ w8.heap.size := hB.size
            clear TC hBw hb8
            have hBw := Below.refl w8.heap.size w8
            replace MM := Lib.hid (MM.out.keep hk); replace HRr := Lib.hid (HRr.out.keep hk)
            clear hk
            have hnq := fun W => run_neq_slice_nil (P := Tryz.prog) (w := W) 59 36 none 0 0 Tryz.underlying59
            go_wp2
            refine wp_loop_rounds 1 ?_
            rw [rounds_succ]
            have TC := Lib.hid (fun V (qB : Below w8.heap.size w8 V) => (MM.out.keep qB).mis (HRr.out.keep qB))
            go_wp2_with fail
            (with_reducible refine (TC.out _ ?_).mono ?_); (repeat (first | exact Below.refl _ _ | exact hBw | refine Below.drew ?_ | refine below_drewN ?_ _ | refine bset ?_ (by simp <;> omega) _ | refine bal ?_ _))
            rintro e w9 ⟨rfl, hb9⟩
            have hk : Below w8.heap.size w8 w9 := bthen (by repeat (first | exact Below.refl _ _ | exact hBw | refine Below.drew ?_ | refine below_drewN ?_ _ | refine bset ?_ (by simp <;> omega) _ | refine bal ?_ _)) hb9
            have m0 : w9.cell? ⟨w3.heap.size, 0, none⟩ = some (.slice ma n mc) := bkc hb9
            have zm0 := cell_lt m0
            have x0 : w9.cell? ⟨w7.heap.size, 0, none⟩ = some (.bool false) := bkc hb9
            have zx0 := cell_lt x0
            have x1 : w9.cell? ⟨w7.heap.size, 1, none⟩ = some (.slice none 0 0) := bkc hb9
            have hB : Below w.heap.size w w9 := bthen (by repeat (first | exact Below.refl _ _ | exact hB | refine Below.drew ?_ | refine below_drewN ?_ _ | refine bset ?_ (by simp <;> omega) _ | refine bal ?_ _)) hb9
            have hz : w.heap.size ≤ w9.heap.size := hB.size
            clear TC hBw hb9
            have hBw := Below.refl w9.heap.size w9
            replace MM := Lib.hid (MM.out.keep hk); replace HRr := Lib.hid (HRr.out.keep hk)
            clear hk
            have TC := Lib.hid (fun V (qB : Below w9.heap.size w9 V) => (MM.out.keep qB).mtxt)
            go_wp2_with fail
            (with_reducible refine (TC.out _ ?_).mono ?_); (repeat (first | exact Below.refl _ _ | exact hBw | refine Below.drew ?_ | refine below_drewN ?_ _ | refine bset ?_ (by simp <;> omega) _ | refine bal ?_ _))
            rintro e w10 ⟨rfl, hb10⟩
            have hk : Below w9.heap.size w9 w10 := bthen (by repeat (first | exact Below.refl _ _ | exact hBw | refine Below.drew ?_ | refine below_drewN ?_ _ | refine bset ?_ (by simp <;> omega) _ | refine bal ?_ _)) hb10
            have m0 : w10.cell? ⟨w3.heap.size, 0, none⟩ = some (.slice ma n mc) := bkc hb10
            have zm0 := cell_lt m0
            have x0 : w10.cell? ⟨w7.heap.size, 0, none⟩ = some (.bool false) := bkc hb10
            have zx0 := cell_lt x0
            have x1 : w10.cell? ⟨w7.heap.size, 1, none⟩ = some (.slice none 0 0) := bkc hb10
            have hB : Below w.heap.size w w10 := bthen (by repeat (first | exact Below.refl _ _ | exact hB | refine Below.drew ?_ | refine below_drewN ?_ _ | refine bset ?_ (by simp <;> omega) _ | refine bal ?_ _)) hb10
            have hz : w.heap.size ≤ w10.heap.size := hB.size
            clear TC hBw hb10
            have hBw := Below.refl w10.heap.size w10
            replace MM := Lib.hid (MM.out.keep hk); replace HRr := Lib.hid (HRr.out.keep hk)
            clear hk
            have TC := Lib.hid (fun V (qB : Below w10.heap.size w10 V) => MM.out.rtxt (HRr.out.keep qB))
            go_wp2_with fail
            (with_reducible refine (TC.out _ ?_).mono ?_); (repeat (first | exact Below.refl _ _ | exact hBw | refine Below.drew ?_ | refine below_drewN ?_ _ | refine bset ?_ (by simp <;> omega) _ | refine bal ?_ _))
            rintro e w11 ⟨rfl, hb11⟩
            have hk : Below w10.heap.size w10 w11 := bthen (by repeat (first | exact Below.refl _ _ | exact hBw | refine Below.drew ?_ | refine below_drewN ?_ _ | refine bset ?_ (by simp <;> omega) _ | refine bal ?_ _)) hb11
            have m0 : w11.cell? ⟨w3.heap.size, 0, none⟩ = some (.slice ma n mc) := bkc hb11
            have zm0 := cell_lt m0
            have x0 : w11.cell? ⟨w7.heap.size, 0, none⟩ = some (.bool false) := bkc hb11
            have zx0 := cell_lt x0
            have x1 : w11.cell? ⟨w7.heap.size, 1, none⟩ = some (.slice none 0 0) := bkc hb11
            have hB : Below w.heap.size w w11 := bthen (by repeat (first | exact Below.refl _ _ | exact hB | refine Below.drew ?_ | refine below_drewN ?_ _ | refine bset ?_ (by simp <;> omega) _ | refine bal ?_ _)) hb11
            have hz : w.heap.size ≤ w11.heap.size := hB.size
            clear TC hBw hb11
            have hBw := Below.refl w11.heap.size w11
            replace MM := Lib.hid (MM.out.keep hk); replace HRr := Lib.hid (HRr.out.keep hk)
            clear hk
            have hss := str_same
            have TC := Lib.hid (fun V (qB : Below w11.heap.size w11 V) => (MM.out.keep qB).same (MM.out.keep qB) rfl)
            go_wp2_with fail
            (with_reducible refine (TC.out _ ?_).mono ?_); (repeat (first | exact Below.refl _ _ | exact hBw | refine Below.drew ?_ | refine below_drewN ?_ _ | refine bset ?_ (by simp <;> omega) _ | refine bal ?_ _))
            rintro e w12 ⟨rfl, hb12⟩
            have hk : Below w11.heap.size w11 w12 := bthen (by repeat (first | exact Below.refl _ _ | exact hBw | refine Below.drew ?_ | refine below_drewN ?_ _ | refine bset ?_ (by simp <;> omega) _ | refine bal ?_ _)) hb12
            have m0 : w12.cell? ⟨w3.heap.size, 0, none⟩ = some (.slice ma n mc) := bkc hb12
            have zm0 := cell_lt m0
            have x0 : w12.cell? ⟨w7.heap.size, 0, none⟩ = some (.bool false) := bkc hb12
            have zx0 := cell_lt x0
            have x1 : w12.cell? ⟨w7.heap.size, 1, none⟩ = some (.slice none 0 0) := bkc hb12
            have hB : Below w.heap.size w w12 := bthen (by repeat (first | exact Below.refl _ _ | exact hB | refine Below.drew ?_ | refine below_drewN ?_ _ | refine bset ?_ (by simp <;> omega) _ | refine bal ?_ _)) hb12
            have hz : w.heap.size ≤ w12.heap.size := hB.size
            clear TC hBw hb12
            have hBw := Below.refl w12.heap.size w12
            replace MM := Lib.hid (MM.out.keep hk); replace HRr := Lib.hid (HRr.out.keep hk)
            clear hk
            have TC := Lib.hid (fun V (qB : Below w12.heap.size w12 V) => sgn_zero0 V)
            go_wp2_with fail
            (with_reducible refine (TC.out _ ?_).mono ?_); (repeat (first | exact Below.refl _ _ | exact hBw | refine Below.drew ?_ | refine below_drewN ?_ _ | refine bset ?_ (by simp <;> omega) _ | refine bal ?_ _))
            rintro e w13 ⟨rfl, hb13⟩
            have hk : Below w12.heap.size w12 w13 := bthen (by repeat (first | exact Below.refl _ _ | exact hBw | refine Below.drew ?_ | refine below_drewN ?_ _ | refine bset ?_ (by simp <;> omega) _ | refine bal ?_ _)) hb13
            have x0 : w13.cell? ⟨w7.heap.size, 0, none⟩ = some (.bool false) := bkc hb13
            have zx0 := cell_lt x0
            have x1 : w13.cell? ⟨w7.heap.size, 1, none⟩ = some (.slice none 0 0) := bkc hb13
            have hB : Below w.heap.size w w13 := bthen (by repeat (first | exact Below.refl _ _ | exact hB | refine Below.drew ?_ | refine below_drewN ?_ _ | refine bset ?_ (by simp <;> omega) _ | refine bal ?_ _)) hb13
            have hz : w.heap.size ≤ w13.heap.size := hB.size
            clear TC hBw hb13
            have hBw := Below.refl w13.heap.size w13
            go_wp2
            go_ret
            exact ⟨rfl, by repeat (first | exact Below.refl _ _ | exact hB | refine Below.drew ?_ | refine below_drewN ?_ _ | refine bset ?_ (by simp <;> omega) _ | refine bal ?_ _)⟩
        · have hi1 : i < 0 := by omega
          have hno := Lib.hid (show ¬ (0 ≤ i ∧ i < (G.length : Int) ∧ 0 ≤ j ∧ j < (cols G : Int)) ∧ ¬ (0 ≤ i ∧ i < (n : Int)) from ⟨fun h => hi0 h.1, fun h => hi0 h.1⟩)
          clear hi0
          have hAt := Lib.hid (fun V (qB : Below w6.heap.size w6 V) => atNo_c (.agg #[.slice ma n mc]) G i j V (MM.out.m.keep qB) MM.out.rc hno.out.1)
          have hRow := Lib.hid (fun V => rowNo_c ma n mc i V hno.out.2)
          clear hno hgn
          have TC := Lib.hid (fun V (qB : Below w6.heap.size w6 V) => hAt.out V qB)
          go_wp2_with fail
          (with_reducible refine (TC.out _ ?_).mono ?_); (repeat (first | exact Below.refl _ _ | exact hBw | refine Below.drew ?_ | refine below_drewN ?_ _ | refine bset ?_ (by simp <;> omega) _ | refine bal ?_ _))
          rintro e w7 ⟨rfl, hb7⟩
          have hk : Below w6.heap.size w6 w7 := bthen (by repeat (first | exact Below.refl _ _ | exact hBw | refine Below.drew ?_ | refine below_drewN ?_ _ | refine bset ?_ (by simp <;> omega) _ | refine bal ?_ _)) hb7
          have m0 : w7.cell? ⟨w3.heap.size, 0, none⟩ = some (.slice ma n mc) := bkc hb7
          have zm0 := cell_lt m0
          have hB : Below w.heap.size w w7 := bthen (by repeat (first | exact Below.refl _ _ | exact hB | refine Below.drew ?_ | refine below_drewN ?_ _ | refine bset ?_ (by simp <;> omega) _ | refine bal ?_ _)) hb7
          have hz : w.heap.size ≤ w7.heap.size := hB.size
          clear TC hBw hb7
          have hBw := Below.refl w7.heap.size w7
          replace MM := Lib.hid (MM.out.keep hk); replace HRr := Lib.hid (HRr.out.keep hk)
          clear hk
          have TC := Lib.hid (fun V (qB : Below w7.heap.size w7 V) => hRow.out V)
          go_wp2_with fail
          (with_reducible refine (TC.out _ ?_).mono ?_); (repeat (first | exact Below.refl _ _ | exact hBw | refine Below.drew ?_ | refine below_drewN ?_ _ | refine bset ?_ (by simp <;> omega) _ | refine bal ?_ _))
          rintro e w8 ⟨rfl, hb8⟩
          have hk : Below w7.heap.size w7 w8 := bthen (by repeat (first | exact Below.refl _ _ | exact hBw | refine Below.drew ?_ | refine below_drewN ?_ _ | refine bset ?_ (by simp <;> omega) _ | refine bal ?_ _)) hb8
          have m0 : w8.cell? ⟨w3.heap.size, 0, none⟩ = some (.slice ma n mc) := bkc hb8
          have zm0 := cell_lt m0
          have x0 : w8.cell? ⟨w7.heap.size, 0, none⟩ = some (.bool false) := bkc hb8
          have zx0 := cell_lt x0
          have x1 : w8.cell? ⟨w7.heap.size, 1, none⟩ = some (.slice none 0 0) := bkc hb8
          have hB : Below w.heap.size w w8 := bthen (by repeat (first | exact Below.refl _ _ | exact hB | refine Below.drew ?_ | refine below_drewN ?_ _ | refine bset ?_ (by simp <;> omega) _ | refine bal ?_ _)) hb8
          have hz : w.heap.size ≤ w8.heap.size := hB.size
          clear TC hBw hb8
          have hBw := Below.refl w8.heap.size w8
          replace MM := Lib.hid (MM.out.keep hk); replace HRr := Lib.hid (HRr.out.keep hk)
          clear hk
          have hnq := fun W => run_neq_slice_nil (P := Tryz.prog) (w := W) 59 36 none 0 0 Tryz.underlying59
          go_wp2
          refine wp_loop_rounds 1 ?_
          rw [rounds_succ]
          have TC := Lib.hid (fun V (qB : Below w8.heap.size w8 V) => (MM.out.keep qB).mis (HRr.out.keep qB))
          go_wp2_with fail
          (with_reducible refine (TC.out _ ?_).mono ?_); (repeat (first | exact Below.refl _ _ | exact hBw | refine Below.drew ?_ | refine below_drewN ?_ _ | refine bset ?_ (by simp <;> omega) _ | refine bal ?_ _))
          rintro e w9 ⟨rfl, hb9⟩
          have hk : Below w8.heap.size w8 w9 := bthen (by repeat (first | exact Below.refl _ _ | exact hBw | refine Below.drew ?_ | refine below_drewN ?_ _ | refine bset ?_ (by simp <;> omega) _ | refine bal ?_ _)) hb9
          have m0 : w9.cell? ⟨w3.heap.size, 0, none⟩ = some (.slice ma n mc) := bkc hb9
          have zm0 := cell_lt m0
          have x0 : w9.cell? ⟨w7.heap.size, 0, none⟩ = some (.bool false) := bkc hb9
          have zx0 := cell_lt x0
          have x1 : w9.cell? ⟨w7.heap.size, 1, none⟩ = some (.slice none 0 0) := bkc hb9
          have hB : Below w.heap.size w w9 := bthen (by repeat (first | exact Below.refl _ _ | exact hB | refine Below.drew ?_ | refine below_drewN ?_ _ | refine bset ?_ (by simp <;> omega) _ | refine bal ?_ _)) hb9
          have hz : w.heap.size ≤ w9.heap.size := hB.size
          clear TC hBw hb9
          have hBw := Below.refl w9.heap.size w9
          replace MM := Lib.hid (MM.out.keep hk); replace HRr := Lib.hid (HRr.out.keep hk)
          clear hk
          have TC := Lib.hid (fun V (qB : Below w9.heap.size w9 V) => (MM.out.keep qB).mtxt)
          go_wp2_with fail
          (with_reducible refine (TC.out _ ?_).mono ?_); (repeat (first | exact Below.refl _ _ | exact hBw | refine Below.drew ?_ | refine below_drewN ?_ _ | refine bset ?_ (by simp <;> omega) _ | refine bal ?_ _))
          rintro e w10 ⟨rfl, hb10⟩
          have hk : Below w9.heap.size w9 w10 := bthen (by repeat (first | exact Below.refl _ _ | exact hBw | refine Below.drew ?_ | refine below_drewN ?_ _ | refine bset ?_ (by simp <;> omega) _ | refine bal ?_ _)) hb10
          have m0 : w10.cell? ⟨w3.heap.size, 0, none⟩ = some (.slice ma n mc) := bkc hb10
          have zm0 := cell_lt m0
          have x0 : w10.cell? ⟨w7.heap.size, 0, none⟩ = some (.bool false) := bkc hb10
          have zx0 := cell_lt x0
          have x1 : w10.cell? ⟨w7.heap.size, 1, none⟩ = some (.slice none 0 0) := bkc hb10
          have hB : Below w.heap.size w w10 := bthen (by repeat (first | exact Below.refl _ _ | exact hB | refine Below.drew ?_ | refine below_drewN ?_ _ | refine bset ?_ (by simp <;> omega) _ | refine bal ?_ _)) hb10
          have hz : w.heap.size ≤ w10.heap.size := hB.size
          clear TC hBw hb10
          have hBw := Below.refl w10.heap.size w10
          replace MM := Lib.hid (MM.out.keep hk); replace HRr := Lib.hid (HRr.out.keep hk)
          clear hk
          have TC := Lib.hid (fun V (qB : Below w10.heap.size w10 V) => MM.out.rtxt (HRr.out.keep qB))
          go_wp2_with fail
          (with_reducible refine (TC.out _ ?_).mono ?_); (repeat (first | exact Below.refl _ _ | exact hBw | refine Below.drew ?_ | refine below_drewN ?_ _ | refine bset ?_ (by simp <;> omega) _ | refine bal ?_ _))
          rintro e w11 ⟨rfl, hb11⟩
          have hk : Below w10.heap.size w10 w11 := bthen (by repeat (first | exact Below.refl _ _ | exact hBw | refine Below.drew ?_ | refine below_drewN ?_ _ | refine bset ?_ (by simp <;> omega) _ | refine bal ?_ _)) hb11
          have m0 : w11.cell? ⟨w3.heap.size, 0, none⟩ = some (.slice ma n mc) := bkc hb11
          have zm0 := cell_lt m0
          have x0 : w11.cell? ⟨w7.heap.size, 0, none⟩ = some (.bool false) := bkc hb11
          have zx0 := cell_lt x0
          have x1 : w11.cell? ⟨w7.heap.size, 1, none⟩ = some (.slice none 0 0) := bkc hb11
          have hB : Below w.heap.size w w11 := bthen (by repeat (first | exact Below.refl _ _ | exact hB | refine Below.drew ?_ | refine below_drewN ?_ _ | refine bset ?_ (by simp <;> omega) _ | refine bal ?_ _)) hb11
          have hz : w.heap.size ≤ w11.heap.size := hB.size
          clear TC hBw hb11
          have hBw := Below.refl w11.heap.size w11
          replace MM := Lib.hid (MM.out.keep hk); replace HRr := Lib.hid (HRr.out.keep hk)
          clear hk
          have hss := str_same
          have TC := Lib.hid (fun V (qB : Below w11.heap.size w11 V) => (MM.out.keep qB).same (MM.out.keep qB) rfl)
          go_wp2_with fail
          (with_reducible refine (TC.out _ ?_).mono ?_); (repeat (first | exact Below.refl _ _ | exact hBw | refine Below.drew ?_ | refine below_drewN ?_ _ | refine bset ?_ (by simp <;> omega) _ | refine bal ?_ _))
          rintro e w12 ⟨rfl, hb12⟩
          have hk : Below w11.heap.size w11 w12 := bthen (by repeat (first | exact Below.refl _ _ | exact hBw | refine Below.drew ?_ | refine below_drewN ?_ _ | refine bset ?_ (by simp <;> omega) _ | refine bal ?_ _)) hb12
          have m0 : w12.cell? ⟨w3.heap.size, 0, none⟩ = some (.slice ma n mc) := bkc hb12
          have zm0 := cell_lt m0
          have x0 : w12.cell? ⟨w7.heap.size, 0, none⟩ = some (.bool false) := bkc hb12
          have zx0 := cell_lt x0
          have x1 : w12.cell? ⟨w7.heap.size, 1, none⟩ = some (.slice none 0 0) := bkc hb12
          have hB : Below w.heap.size w w12 := bthen (by repeat (first | exact Below.refl _ _ | exact hB | refine Below.drew ?_ | refine below_drewN ?_ _ | refine bset ?_ (by simp <;> omega) _ | refine bal ?_ _)) hb12
          have hz : w.heap.size ≤ w12.heap.size := hB.size
          clear TC hBw hb12
          have hBw := Below.refl w12.heap.size w12
          replace MM := Lib.hid (MM.out.keep hk); replace HRr := Lib.hid (HRr.out.keep hk)
          clear hk
          have TC := Lib.hid (fun V (qB : Below w12.heap.size w12 V) => sgn_zero0 V)
          go_wp2_with fail
          (with_reducible refine (TC.out _ ?_).mono ?_); (repeat (first | exact Below.refl _ _ | exact hBw | refine Below.drew ?_ | refine below_drewN ?_ _ | refine bset ?_ (by simp <;> omega) _ | refine bal ?_ _))
          rintro e w13 ⟨rfl, hb13⟩
          have hk : Below w12.heap.size w12 w13 := bthen (by repeat (first | exact Below.refl _ _ | exact hBw | refine Below.drew ?_ | refine below_drewN ?_ _ | refine bset ?_ (by simp <;> omega) _ | refine bal ?_ _)) hb13
          have x0 : w13.cell? ⟨w7.heap.size, 0, none⟩ = some (.bool false) := bkc hb13
          have zx0 := cell_lt x0
          have x1 : w13.cell? ⟨w7.heap.size, 1, none⟩ = some (.slice none 0 0) := bkc hb13
          have hB : Below w.heap.size w w13 := bthen (by repeat (first | exact Below.refl _ _ | exact hB | refine Below.drew ?_ | refine below_drewN ?_ _ | refine bset ?_ (by simp <;> omega) _ | refine bal ?_ _)) hb13
          have hz : w.heap.size ≤ w13.heap.size := hB.size
          clear TC hBw hb13
          have hBw := Below.refl w13.heap.size w13
          go_wp2
          go_ret
          exact ⟨rfl, by repeat (first | exact Below.refl _ _ | exact hB | refine Below.drew ?_ | refine below_drewN ?_ _ | refine bset ?_ (by simp <;> omega) _ | refine bal ?_ _)⟩
      · subst hG hma hmn hmc
        have hB := hBr
        have hEI : (ne != 0) = true := by simpa using h0
        have TC := Lib.hid (fun V (qB : Below wr.heap.size wr V) => mComes_no ne (.slice ra n rc) V h0 ⟨_, _, _, rfl⟩)
        go_wp2_with fail
        (with_reducible refine (TC.out _ ?_).mono ?_); (repeat (first | exact Below.refl _ _ | exact hBw | refine Below.drew ?_ | refine below_drewN ?_ _ | refine bset ?_ (by simp <;> omega) _ | refine bal ?_ _))
        rintro e w6 ⟨rfl, hb6⟩
        have hk : Below wr.heap.size wr w6 := bthen (by repeat (first | exact Below.refl _ _ | exact hBw | refine Below.drew ?_ | refine below_drewN ?_ _ | refine bset ?_ (by simp <;> omega) _ | refine bal ?_ _)) hb6
        have m0 : w6.cell? ⟨w3.heap.size, 0, none⟩ = some (.slice none 0 0) := bkc hb6
        have zm0 := cell_lt m0
        have hB : Below w.heap.size w w6 := bthen (by repeat (first | exact Below.refl _ _ | exact hB | refine Below.drew ?_ | refine below_drewN ?_ _ | refine bset ?_ (by simp <;> omega) _ | refine bal ?_ _)) hb6
        have hz : w.heap.size ≤ w6.heap.size := hB.size
        clear TC hBw hb6
        have hBw := Below.refl w6.heap.size w6
        clear hk h0 HRr
        by_cases hi0 : 0 ≤ i
        · have hi1 : ¬ i < 0 := by omega
          have TC := Lib.hid (fun V (qB : Below w6.heap.size w6 V) => atNo_c (.agg #[.slice none 0 0]) [] i j V (IsM.nil _ _) (fun r hr => absurd hr (by simp)) (by simp; omega))
          go_wp2_with fail
          (with_reducible refine (TC.out _ ?_).mono ?_); (repeat (first | exact Below.refl _ _ | exact hBw | refine Below.drew ?_ | refine below_drewN ?_ _ | refine bset ?_ (by simp <;> omega) _ | refine bal ?_ _))
          rintro e w7 ⟨rfl, hb7⟩
          have hk : Below w6.heap.size w6 w7 := bthen (by repeat (first | exact Below.refl _ _ | exact hBw | refine Below.drew ?_ | refine below_drewN ?_ _ | refine bset ?_ (by simp <;> omega) _ | refine bal ?_ _)) hb7
          have m0 : w7.cell? ⟨w3.heap.size, 0, none⟩ = some (.slice none 0 0) := bkc hb7
          have zm0 := cell_lt m0
          have hB : Below w.heap.size w w7 := bthen (by repeat (first | exact Below.refl _ _ | exact hB | refine Below.drew ?_ | refine below_drewN ?_ _ | refine bset ?_ (by simp <;> omega) _ | refine bal ?_ _)) hb7
          have hz : w.heap.size ≤ w7.heap.size := hB.size
          clear TC hBw hb7
          have hBw := Below.refl w7.heap.size w7
          skip
          clear hk
          have TC := Lib.hid (fun V (qB : Below w7.heap.size w7 V) => rowNo_c none 0 0 i V (by omega))
          go_wp2_with fail
          (with_reducible refine (TC.out _ ?_).mono ?_); (repeat (first | exact Below.refl _ _ | exact hBw | refine Below.drew ?_ | refine below_drewN ?_ _ | refine bset ?_ (by simp <;> omega) _ | refine bal ?_ _))
          rintro e w8 ⟨rfl, hb8⟩
          have hk : Below w7.heap.size w7 w8 := bthen (by repeat (first | exact Below.refl _ _ | exact hBw | refine Below.drew ?_ | refine below_drewN ?_ _ | refine bset ?_ (by simp <;> omega) _ | refine bal ?_ _)) hb8
          have m0 : w8.cell? ⟨w3.heap.size, 0, none⟩ = some (.slice none 0 0) := bkc hb8
          have zm0 := cell_lt m0
          have x0 : w8.cell? ⟨w7.heap.size, 0, none⟩ = some (.bool false) := bkc hb8
          have zx0 := cell_lt x0
          have x1 : w8.cell? ⟨w7.heap.size, 1, none⟩ = some (.slice none 0 0) := bkc hb8
          have hB : Below w.heap.size w w8 := bthen (by repeat (first | exact Below.refl _ _ | exact hB | refine Below.drew ?_ | refine below_drewN ?_ _ | refine bset ?_ (by simp <;> omega) _ | refine bal ?_ _)) hb8
          have hz : w.heap.size ≤ w8.heap.size := hB.size
          clear TC hBw hb8
          have hBw := Below.refl w8.heap.size w8
          skip
          clear hk
          have hnq := fun W => run_neq_slice_nil (P := Tryz.prog) (w := W) 59 36 none 0 0 Tryz.underlying59
          go_wp2
          refine wp_loop_rounds 1 ?_
          rw [rounds_succ]
          have TC := Lib.hid (fun V (qB : Below w8.heap.size w8 V) => mIs_c (.agg #[.slice none 0 0]) (.slice none 0 0) [] 1 V (IsM.nil _ _) (RefM.nil _) (fun i hi => by simp at hi) (by decide) (by decide) (bdM_of (by simp)) (by decide))
          go_wp2_with fail
          (with_reducible refine (TC.out _ ?_).mono ?_); (repeat (first | exact Below.refl _ _ | exact hBw | refine Below.drew ?_ | refine below_drewN ?_ _ | refine bset ?_ (by simp <;> omega) _ | refine bal ?_ _))
          rintro e w9 ⟨rfl, hb9⟩
          have hk : Below w8.heap.size w8 w9 := bthen (by repeat (first | exact Below.refl _ _ | exact hBw | refine Below.drew ?_ | refine below_drewN ?_ _ | refine bset ?_ (by simp <;> omega) _ | refine bal ?_ _)) hb9
          have m0 : w9.cell? ⟨w3.heap.size, 0, none⟩ = some (.slice none 0 0) := bkc hb9
          have zm0 := cell_lt m0
          have x0 : w9.cell? ⟨w7.heap.size, 0, none⟩ = some (.bool false) := bkc hb9
          have zx0 := cell_lt x0
          have x1 : w9.cell? ⟨w7.heap.size, 1, none⟩ = some (.slice none 0 0) := bkc hb9
          have hB : Below w.heap.size w w9 := bthen (by repeat (first | exact Below.refl _ _ | exact hB | refine Below.drew ?_ | refine below_drewN ?_ _ | refine bset ?_ (by simp <;> omega) _ | refine bal ?_ _)) hb9
          have hz : w.heap.size ≤ w9.heap.size := hB.size
          clear TC hBw hb9
          have hBw := Below.refl w9.heap.size w9
          skip
          clear hk
          have TC := Lib.hid (fun V (qB : Below w9.heap.size w9 V) => matText_c (.agg #[.slice none 0 0]) [] 1 V (IsM.nil _ _) (by simp) (fun i hi => by simp at hi) (bdM_of (by simp)) (by decide) (fun i hi => by simp at hi) (by simp [Lib.join]))
          go_wp2_with fail
          (with_reducible refine (TC.out _ ?_).mono ?_); (repeat (first | exact Below.refl _ _ | exact hBw | refine Below.drew ?_ | refine below_drewN ?_ _ | refine bset ?_ (by simp <;> omega) _ | refine bal ?_ _))
          rintro e w10 ⟨rfl, hb10⟩
          have hk : Below w9.heap.size w9 w10 := bthen (by repeat (first | exact Below.refl _ _ | exact hBw | refine Below.drew ?_ | refine below_drewN ?_ _ | refine bset ?_ (by simp <;> omega) _ | refine bal ?_ _)) hb10
          have m0 : w10.cell? ⟨w3.heap.size, 0, none⟩ = some (.slice none 0 0) := bkc hb10
          have zm0 := cell_lt m0
          have x0 : w10.cell? ⟨w7.heap.size, 0, none⟩ = some (.bool false) := bkc hb10
          have zx0 := cell_lt x0
          have x1 : w10.cell? ⟨w7.heap.size, 1, none⟩ = some (.slice none 0 0) := bkc hb10
          have hB : Below w.heap.size w w10 := bthen (by repeat (first | exact Below.refl _ _ | exact hB | refine Below.drew ?_ | refine below_drewN ?_ _ | refine bset ?_ (by simp <;> omega) _ | refine bal ?_ _)) hb10
          have hz : w.heap.size ≤ w10.heap.size := hB.size
          clear TC hBw hb10
          have hBw := Below.refl w10.heap.size w10
          skip
          clear hk
          have TC := Lib.hid (fun V (qB : Below w10.heap.size w10 V) => rmatText_c (.slice none 0 0) [] 1 V (RefM.nil _) (by simp) (fun i hi => by simp at hi) (bdM_of (by simp)) (by decide) (fun i hi => by simp at hi) (by simp [Lib.join]))
          go_wp2_with fail
          (with_reducible refine (TC.out _ ?_).mono ?_); (repeat (first | exact Below.refl _ _ | exact hBw | refine Below.drew ?_ | refine below_drewN ?_ _ | refine bset ?_ (by simp <;> omega) _ | refine bal ?_ _))
          rintro e w11 ⟨rfl, hb11⟩
          have hk : Below w10.heap.size w10 w11 := bthen (by repeat (first | exact Below.refl _ _ | exact hBw | refine Below.drew ?_ | refine below_drewN ?_ _ | refine bset ?_ (by simp <;> omega) _ | refine bal ?_ _)) hb11
          have m0 : w11.cell? ⟨w3.heap.size, 0, none⟩ = some (.slice none 0 0) := bkc hb11
          have zm0 := cell_lt m0
          have x0 : w11.cell? ⟨w7.heap.size, 0, none⟩ = some (.bool false) := bkc hb11
          have zx0 := cell_lt x0
          have x1 : w11.cell? ⟨w7.heap.size, 1, none⟩ = some (.slice none 0 0) := bkc hb11
          have hB : Below w.heap.size w w11 := bthen (by repeat (first | exact Below.refl _ _ | exact hB | refine Below.drew ?_ | refine below_drewN ?_ _ | refine bset ?_ (by simp <;> omega) _ | refine bal ?_ _)) hb11
          have hz : w.heap.size ≤ w11.heap.size := hB.size
          clear TC hBw hb11
          have hBw := Below.refl w11.heap.size w11
          skip
          clear hk
          have hss := str_same
          have TC := Lib.hid (fun V (qB : Below w11.heap.size w11 V) => sameM_c (.agg #[.slice none 0 0]) (.agg #[.slice none 0 0]) [] [] V (IsM.nil _ _) (IsM.nil _ _) (by simp) (fun i hi => by simp at hi) (fun i hi => by simp at hi))
          go_wp2_with fail
          (with_reducible refine (TC.out _ ?_).mono ?_); (repeat (first | exact Below.refl _ _ | exact hBw | refine Below.drew ?_ | refine below_drewN ?_ _ | refine bset ?_ (by simp <;> omega) _ | refine bal ?_ _))
          rintro e w12 ⟨rfl, hb12⟩
          have hk : Below w11.heap.size w11 w12 := bthen (by repeat (first | exact Below.refl _ _ | exact hBw | refine Below.drew ?_ | refine below_drewN ?_ _ | refine bset ?_ (by simp <;> omega) _ | refine bal ?_ _)) hb12
          have m0 : w12.cell? ⟨w3.heap.size, 0, none⟩ = some (.slice none 0 0) := bkc hb12
          have zm0 := cell_lt m0
          have x0 : w12.cell? ⟨w7.heap.size, 0, none⟩ = some (.bool false) := bkc hb12
          have zx0 := cell_lt x0
          have x1 : w12.cell? ⟨w7.heap.size, 1, none⟩ = some (.slice none 0 0) := bkc hb12
          have hB : Below w.heap.size w w12 := bthen (by repeat (first | exact Below.refl _ _ | exact hB | refine Below.drew ?_ | refine below_drewN ?_ _ | refine bset ?_ (by simp <;> omega) _ | refine bal ?_ _)) hb12
          have hz : w.heap.size ≤ w12.heap.size := hB.size
          clear TC hBw hb12
          have hBw := Below.refl w12.heap.size w12
          skip
          clear hk
          have TC := Lib.hid (fun V (qB : Below w12.heap.size w12 V) => sgn_zero0 V)
          go_wp2_with fail
          (with_reducible refine (TC.out _ ?_).mono ?_); (repeat (first | exact Below.refl _ _ | exact hBw | refine Below.drew ?_ | refine below_drewN ?_ _ | refine bset ?_ (by simp <;> omega) _ | refine bal ?_ _))
          rintro e w13 ⟨rfl, hb13⟩
          have hk : Below w12.heap.size w12 w13 := bthen (by repeat (first | exact Below.refl _ _ | exact hBw | refine Below.drew ?_ | refine below_drewN ?_ _ | refine bset ?_ (by simp <;> omega) _ | refine bal ?_ _)) hb13
          have x0 : w13.cell? ⟨w7.heap.size, 0, none⟩ = some (.bool false) := bkc hb13
          have zx0 := cell_lt x0
          have x1 : w13.cell? ⟨w7.heap.size, 1, none⟩ = some (.slice none 0 0) := bkc hb13
          have hB : Below w.heap.size w w13 := bthen (by repeat (first | exact Below.refl _ _ | exact hB | refine Below.drew ?_ | refine below_drewN ?_ _ | refine bset ?_ (by simp <;> omega) _ | refine bal ?_ _)) hb13
          have hz : w.heap.size ≤ w13.heap.size := hB.size
          clear TC hBw hb13
          have hBw := Below.refl w13.heap.size w13
          go_wp2
          go_ret
          exact ⟨rfl, by repeat (first | exact Below.refl _ _ | exact hB | refine Below.drew ?_ | refine below_drewN ?_ _ | refine bset ?_ (by simp <;> omega) _ | refine bal ?_ _)⟩
        · have hi1 : i < 0 := by omega
          have TC := Lib.hid (fun V (qB : Below w6.heap.size w6 V) => atNo_c (.agg #[.slice none 0 0]) [] i j V (IsM.nil _ _) (fun r hr => absurd hr (by simp)) (by simp; omega))
          go_wp2_with fail
          (with_reducible refine (TC.out _ ?_).mono ?_); (repeat (first | exact Below.refl _ _ | exact hBw | refine Below.drew ?_ | refine below_drewN ?_ _ | refine bset ?_ (by simp <;> omega) _ | refine bal ?_ _))
          rintro e w7 ⟨rfl, hb7⟩
          have hk : Below w6.heap.size w6 w7 := bthen (by repeat (first | exact Below.refl _ _ | exact hBw | refine Below.drew ?_ | refine below_drewN ?_ _ | refine bset ?_ (by simp <;> omega) _ | refine bal ?_ _)) hb7
          have m0 : w7.cell? ⟨w3.heap.size, 0, none⟩ = some (.slice none 0 0) := bkc hb7
          have zm0 := cell_lt m0
          have hB : Below w.heap.size w w7 := bthen (by repeat (first | exact Below.refl _ _ | exact hB | refine Below.drew ?_ | refine below_drewN ?_ _ | refine bset ?_ (by simp <;> omega) _ | refine bal ?_ _)) hb7
          have hz : w.heap.size ≤ w7.heap.size := hB.size
          clear TC hBw hb7
          have hBw := Below.refl w7.heap.size w7
          skip
          clear hk
          have TC := Lib.hid (fun V (qB : Below w7.heap.size w7 V) => rowNo_c none 0 0 i V (by omega))
          go_wp2_with fail
          (with_reducible refine (TC.out _ ?_).mono ?_); (repeat (first | exact Below.refl _ _ | exact hBw | refine Below.drew ?_ | refine below_drewN ?_ _ | refine bset ?_ (by simp <;> omega) _ | refine bal ?_ _))
          rintro e w8 ⟨rfl, hb8⟩
          have hk : Below w7.heap.size w7 w8 := bthen (by repeat (first | exact Below.refl _ _ | exact hBw | refine Below.drew ?_ | refine below_drewN ?_ _ | refine bset ?_ (by simp <;> omega) _ | refine bal ?_ _)) hb8
          have m0 : w8.cell? ⟨w3.heap.size, 0, none⟩ = some (.slice none 0 0) := bkc hb8
          have zm0 := cell_lt m0
          have x0 : w8.cell? ⟨w7.heap.size, 0, none⟩ = some (.bool false) := bkc hb8
          have zx0 := cell_lt x0
          have x1 : w8.cell? ⟨w7.heap.size, 1, none⟩ = some (.slice none 0 0) := bkc hb8
          have hB : Below w.heap.size w w8 := bthen (by repeat (first | exact Below.refl _ _ | exact hB | refine Below.drew ?_ | refine below_drewN ?_ _ | refine bset ?_ (by simp <;> omega) _ | refine bal ?_ _)) hb8
          have hz : w.heap.size ≤ w8.heap.size := hB.size
          clear TC hBw hb8
          have hBw := Below.refl w8.heap.size w8
          skip
          clear hk
          have hnq := fun W => run_neq_slice_nil (P := Tryz.prog) (w := W) 59 36 none 0 0 Tryz.underlying59
          go_wp2
          refine wp_loop_rounds 1 ?_
          rw [rounds_succ]
          have TC := Lib.hid (fun V (qB : Below w8.heap.size w8 V) => mIs_c (.agg #[.slice none 0 0]) (.slice none 0 0) [] 1 V (IsM.nil _ _) (RefM.nil _) (fun i hi => by simp at hi) (by decide) (by decide) (bdM_of (by simp)) (by decide))
          go_wp2_with fail
          (with_reducible refine (TC.out _ ?_).mono ?_); (repeat (first | exact Below.refl _ _ | exact hBw | refine Below.drew ?_ | refine below_drewN ?_ _ | refine bset ?_ (by simp <;> omega) _ | refine bal ?_ _))
          rintro e w9 ⟨rfl, hb9⟩
          have hk : Below w8.heap.size w8 w9 := bthen (by repeat (first | exact Below.refl _ _ | exact hBw | refine Below.drew ?_ | refine below_drewN ?_ _ | refine bset ?_ (by simp <;> omega) _ | refine bal ?_ _)) hb9
          have m0 : w9.cell? ⟨w3.heap.size, 0, none⟩ = some (.slice none 0 0) := bkc hb9
          have zm0 := cell_lt m0
          have x0 : w9.cell? ⟨w7.heap.size, 0, none⟩ = some (.bool false) := bkc hb9
          have zx0 := cell_lt x0
          have x1 : w9.cell? ⟨w7.heap.size, 1, none⟩ = some (.slice none 0 0) := bkc hb9
          have hB : Below w.heap.size w w9 := bthen (by repeat (first | exact Below.refl _ _ | exact hB | refine Below.drew ?_ | refine below_drewN ?_ _ | refine bset ?_ (by simp <;> omega) _ | refine bal ?_ _)) hb9
          have hz : w.heap.size ≤ w9.heap.size := hB.size
          clear TC hBw hb9
          have hBw := Below.refl w9.heap.size w9
          skip
          clear hk
          have TC := Lib.hid (fun V (qB : Below w9.heap.size w9 V) => matText_c (.agg #[.slice none 0 0]) [] 1 V (IsM.nil _ _) (by simp) (fun i hi => by simp at hi) (bdM_of (by simp)) (by decide) (fun i hi => by simp at hi) (by simp [Lib.join]))
          go_wp2_with fail
          (with_reducible refine (TC.out _ ?_).mono ?_); (repeat (first | exact Below.refl _ _ | exact hBw | refine Below.drew ?_ | refine below_drewN ?_ _ | refine bset ?_ (by simp <;> omega) _ | refine bal ?_ _))
          rintro e w10 ⟨rfl, hb10⟩
          have hk : Below w9.heap.size w9 w10 := bthen (by repeat (first | exact Below.refl _ _ | exact hBw | refine Below.drew ?_ | refine below_drewN ?_ _ | refine bset ?_ (by simp <;> omega) _ | refine bal ?_ _)) hb10
          have m0 : w10.cell? ⟨w3.heap.size, 0, none⟩ = some (.slice none 0 0) := bkc hb10
          have zm0 := cell_lt m0
          have x0 : w10.cell? ⟨w7.heap.size, 0, none⟩ = some (.bool false) := bkc hb10
          have zx0 := cell_lt x0
          have x1 : w10.cell? ⟨w7.heap.size, 1, none⟩ = some (.slice none 0 0) := bkc hb10
          have hB : Below w.heap.size w w10 := bthen (by repeat (first | exact Below.refl _ _ | exact hB | refine Below.drew ?_ | refine below_drewN ?_ _ | refine bset ?_ (by simp <;> omega) _ | refine bal ?_ _)) hb10
          have hz : w.heap.size ≤ w10.heap.size := hB.size
          clear TC hBw hb10
          have hBw := Below.refl w10.heap.size w10
          skip
          clear hk
          have TC := Lib.hid (fun V (qB : Below w10.heap.size w10 V) => rmatText_c (.slice none 0 0) [] 1 V (RefM.nil _) (by simp) (fun i hi => by simp at hi) (bdM_of (by simp)) (by decide) (fun i hi => by simp at hi) (by simp [Lib.join]))
          go_wp2_with fail
          (with_reducible refine (TC.out _ ?_).mono ?_); (repeat (first | exact Below.refl _ _ | exact hBw | refine Below.drew ?_ | refine below_drewN ?_ _ | refine bset ?_ (by simp <;> omega) _ | refine bal ?_ _))
          rintro e w11 ⟨rfl, hb11⟩
          have hk : Below w10.heap.size w10 w11 := bthen (by repeat (first | exact Below.refl _ _ | exact hBw | refine Below.drew ?_ | refine below_drewN ?_ _ | refine bset ?_ (by simp <;> omega) _ | refine bal ?_ _)) hb11
          have m0 : w11.cell? ⟨w3.heap.size, 0, none⟩ = some (.slice none 0 0) := bkc hb11
          have zm0 := cell_lt m0
          have x0 : w11.cell? ⟨w7.heap.size, 0, none⟩ = some (.bool false) := bkc hb11
          have zx0 := cell_lt x0
          have x1 : w11.cell? ⟨w7.heap.size, 1, none⟩ = some (.slice none 0 0) := bkc hb11
          have hB : Below w.heap.size w w11 := bthen (by repeat (first | exact Below.refl _ _ | exact hB | refine Below.drew ?_ | refine below_drewN ?_ _ | refine bset ?_ (by simp <;> omega) _ | refine bal ?_ _)) hb11
          have hz : w.heap.size ≤ w11.heap.size := hB.size
          clear TC hBw hb11
          have hBw := Below.refl w11.heap.size w11
          skip
          clear hk
          have hss := str_same
          have TC := Lib.hid (fun V (qB : Below w11.heap.size w11 V) => sameM_c (.agg #[.slice none 0 0]) (.agg #[.slice none 0 0]) [] [] V (IsM.nil _ _) (IsM.nil _ _) (by simp) (fun i hi => by simp at hi) (fun i hi => by simp at hi))
          go_wp2_with fail
          (with_reducible refine (TC.out _ ?_).mono ?_); (repeat (first | exact Below.refl _ _ | exact hBw | refine Below.drew ?_ | refine below_drewN ?_ _ | refine bset ?_ (by simp <;> omega) _ | refine bal ?_ _))
          rintro e w12 ⟨rfl, hb12⟩
          have hk : Below w11.heap.size w11 w12 := bthen (by repeat (first | exact Below.refl _ _ | exact hBw | refine Below.drew ?_ | refine below_drewN ?_ _ | refine bset ?_ (by simp <;> omega) _ | refine bal ?_ _)) hb12
          have m0 : w12.cell? ⟨w3.heap.size, 0, none⟩ = some (.slice none 0 0) := bkc hb12
          have zm0 := cell_lt m0
          have x0 : w12.cell? ⟨w7.heap.size, 0, none⟩ = some (.bool false) := bkc hb12
          have zx0 := cell_lt x0
          have x1 : w12.cell? ⟨w7.heap.size, 1, none⟩ = some (.slice none 0 0) := bkc hb12
          have hB : Below w.heap.size w w12 := bthen (by repeat (first | exact Below.refl _ _ | exact hB | refine Below.drew ?_ | refine below_drewN ?_ _ | refine bset ?_ (by simp <;> omega) _ | refine bal ?_ _)) hb12
          have hz : w.heap.size ≤ w12.heap.size := hB.size
          clear TC hBw hb12
          have hBw := Below.refl w12.heap.size w12
          skip
          clear hk
          have TC := Lib.hid (fun V (qB : Below w12.heap.size w12 V) => sgn_zero0 V)
          go_wp2_with fail
          (with_reducible refine (TC.out _ ?_).mono ?_); (repeat (first | exact Below.refl _ _ | exact hBw | refine Below.drew ?_ | refine below_drewN ?_ _ | refine bset ?_ (by simp <;> omega) _ | refine bal ?_ _))
          rintro e w13 ⟨rfl, hb13⟩
          have hk : Below w12.heap.size w12 w13 := bthen (by repeat (first | exact Below.refl _ _ | exact hBw | refine Below.drew ?_ | refine below_drewN ?_ _ | refine bset ?_ (by simp <;> omega) _ | refine bal ?_ _)) hb13
          have x0 : w13.cell? ⟨w7.heap.size, 0, none⟩ = some (.bool false) := bkc hb13
          have zx0 := cell_lt x0
          have x1 : w13.cell? ⟨w7.heap.size, 1, none⟩ = some (.slice none 0 0) := bkc hb13
          have hB : Below w.heap.size w w13 := bthen (by repeat (first | exact Below.refl _ _ | exact hB | refine Below.drew ?_ | refine below_drewN ?_ _ | refine bset ?_ (by simp <;> omega) _ | refine bal ?_ _)) hb13
          have hz : w.heap.size ≤ w13.heap.size := hB.size
          clear TC hBw hb13
          have hBw := Below.refl w13.heap.size w13
          go_wp2
          go_ret
          exact ⟨rfl, by repeat (first | exact Below.refl _ _ | exact hB | refine Below.drew ?_ | refine below_drewN ?_ _ | refine bset ?_ (by simp <;> omega) _ | refine bal ?_ _)⟩
theorem matrixMakes_u (va : Value) (a : Grid) (x y : Int) (w : World) (ha : GridI w va a ∧ sumG a ≤ 1048576 ∧ a.length ≤ 1048576) (hx : (Lit.int .i64 x).wf = true) (hy : (Lit.int .i64 y).wf = true) :
    Calls Tryz.prog 4 #[va, .int .i64 x, .int .i64 y] w fun e w' => e = .returned (.bool true) ∧ Below w.heap.size w w' :=
  matrixMakes_h va a x y w ha.1 fun k hk => Nat.le_trans (sumG_le hk) ha.2.1
end Go.Proofs.YthlphfjmdgcpdaaGreatDoor

