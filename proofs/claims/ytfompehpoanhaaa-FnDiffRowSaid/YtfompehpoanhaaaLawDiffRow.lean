/- The law FnDiffRow. -/
import Derived.Test.YtfompehpoanhaaaLawTwice
import Derived.Test.YtfompehpoanhaaaSums
import Derived.Test.YtfompehpoanhaaaFlow
import Derived.Test.YtfompehpoanhaaaRisk
import Derived.Test.YtfompehpoanhaaaCells
namespace Go.Proofs.Ytfompehpoanhaaa
open Go.RowKit Go.DC
theorem diff_sums {a b : List (List Int)} (h : diffOk a b = true) : (diffT a b).length = a.length ∧ wide (diffT a b) = wide a ∧ b.length = a.length ∧ wide b = wide a ∧
    (∀ i, i < a.length → sumN (wide a) (get 0 (diffT a b) i) = sumN (wide a) (get 0 a i) - sumN (wide a) (get 0 b i)) ∧ (∀ j, j < wide a → sumN a.length (fun i => get 0 (diffT a b) i j) = sumN a.length (fun i => get 0 a i j) - sumN a.length (fun i => get 0 b i j)) := by
  obtain ⟨n, m, f, g, rfl, rfl, hf, hg, hd, e⟩ := diffOk_ex h
  have hn : 0 < n := by have := hf.1; omega
  rw [e, tabOf_length, tabOf_length, tabOf_length, wide_tabOf f hn, wide_tabOf g hn, wide_tabOf _ hn]
  refine ⟨rfl, rfl, rfl, rfl, fun i hi => ?_, fun j hj => ?_⟩
  · rw [← sumN_sub]
    exact sumN_congr fun j hj => by rw [get_tabOf _ hi hj, get_tabOf _ hi hj, get_tabOf _ hi hj]
  · rw [← sumN_sub (fun i => get 0 (tabOf n m f) i j)]
    exact sumN_congr fun i hi => by rw [get_tabOf _ hi hj, get_tabOf _ hi hj, get_tabOf _ hi hj]
theorem colsum_bd {t : List (List Int)} (h : tabOk t = true) : ∀ j, j < wide t → 0 ≤ sumN t.length (fun i => get 0 t i j) ∧ sumN t.length (fun i => get 0 t i j) ≤ 396 := fun j hj => by
  obtain ⟨_, _, h4, _, m4, hc⟩ := tabOk_rect h
  have h1 := sum_bd (n := t.length) (F := fun i => get 0 t i j) (B := 99) (fun i hi => by have := hc i j hi hj; omega) t.length (Nat.le_refl _)
  have h2 := sumN_nonneg (n := t.length) (f := fun i => get 0 t i j) (fun i hi => (hc i j hi hj).1)
  omega
/-- The cells of a row of sums. -/
theorem rowOf_cells {w : World} {B h : Nat} {v : Value} {F : Nat → Int} (o : w.ownsRow B 3 1 v h (rowOf h F)) : ∃ a c, v = .slice a h c ∧ ∀ i, i < h → ∃ g, a = some ⟨g, 0, none⟩ ∧ w.cell? ⟨g, i, none⟩ = some (.int .i64 (F i)) := by
  obtain ⟨a, c, hv, _, hx⟩ := owns_cells o
  refine ⟨a, c, hv, fun i hi => ?_⟩
  obtain ⟨g, ha, _, hc, _⟩ := hx i _ (rowOf_at F hi)
  exact ⟨g, ha, hc⟩
set_option maxHeartbeats 4000000 in
theorem FnDiffRow_walk (a0 : Option Addr) (c0 : Nat) (xs : List Int) (w : World) (hx : Bytes w a0 xs) (hm0 : xs.length ≤ 9223372036854775807) (hl0 : xs.length ≤ c0) :
    Calls Try.prog 7 #[.slice a0 xs.length c0] w fun e w' => e = .returned (.bool true) ∧ Ext w w' := by
  by_cases hX : 1048576 < xs.length
  · have hz : (1048576 : Int) < (xs.length : Int) := by omega
    go_enter Try.func7, Try.ntmps7
    go_wp2_with fail
    go_ret
    exact ⟨rfl, Ext.refl _⟩
  have hz0 : ¬ (1048576 : Int) < (xs.length : Int) := by omega
  have hb0 : decide (1048576 < xs.length) = false := by simpa using hX
  have HX := Lib.hid hx; clear hx
  go_enter Try.func7, Try.ntmps7
  go_wp2_with fail
  refine (DrawDiffTable_any _ _ xs _ HX.out hm0 hl0).mono ?_
  rintro e w1 ⟨v1, vs1, A, v2, vs2, B, rfl, o1, o2, hA4, hAr, hB4, hBr, e1⟩
  obtain ⟨a, c, rfl, _, ra, _⟩ := o1.rows
  obtain ⟨b, d, rfl, _, rb, _⟩ := o2.rows
  have RA := Lib.hid ra; have RB := Lib.hid rb; have HAR := Lib.hid hAr; have HBR := Lib.hid hBr
  clear ra rb o1 o2 hAr hBr
  obtain ⟨hd4, hdr, hds⟩ := diffT_small A B
  have HDR := Lib.hid hdr; clear hdr
  go_wp2_with fail
  refine (DiffTable_any _ _ _ _ A B _ RA.out RB.out (by omega) (by omega)).mono ?_
  rintro e w2 ⟨v3, vs3, rfl, o3, e2⟩
  obtain ⟨b3, d3, rfl, _, r3, _⟩ := o3.rows
  have R3 := Lib.hid r3; clear r3 o3
  go_wp2_with fail
  refine (sDiffTable_any _ _ _ _ A B _ (RA.out.ext e2) (RB.out.ext e2) (by omega) (by omega)).mono ?_
  rintro e w3 ⟨v4, vs4, rfl, o4, e3⟩
  obtain ⟨b4, d4, rfl, _, r4, _⟩ := o4.rows
  have R4 := Lib.hid r4; clear r4 o4
  have E3 := (e1.trans e2).trans e3
  obtain ⟨dt, hdt⟩ : ∃ dt, diffT A B = dt := ⟨_, rfl⟩
  obtain ⟨dk, hdk⟩ : ∃ dk, diffOk A B = dk := ⟨_, rfl⟩
  rw [hdt] at R3 R4 HDR hd4 hds
  simp only [hdt, hdk]
  have HDT := Lib.hid hdt; have HDK := Lib.hid hdk
  clear hdt hdk
  have hdl : dt.length ≤ 9223372036854775807 := by omega
  have hdr' : ∀ r ∈ dt, r.length ≤ 9223372036854775807 := fun r hr => by have := HDR.out r hr; omega
  have hbr' : ∀ r ∈ B, r.length ≤ 9223372036854775807 := fun r hr => by have := HBR.out r hr; omega
  have HDR' := Lib.hid hdr'; have HBR' := Lib.hid hbr'; clear hdr' hbr'
  have hbb : (!(dk == dk)) = false := by simp
  have hbb2 : (dk == dk) = true := by simp
  go_wp2_with fail
  refine (sameRows_any _ _ _ _ dt dt _ (R3.out.ext e3) R4.out hdl hdl HDR'.out HDR'.out).mono ?_
  rintro e w4 ⟨rfl, e4⟩
  rw [decide_eq_true (rfl : dt = dt)]
  have E4 := E3.trans e4
  cases dk with
  | false =>
    go_wp2_with fail
    refine (sameRows_any _ _ _ _ dt dt _ (R3.out.ext (e3.trans e4)) (R4.out.ext e4) hdl hdl HDR'.out HDR'.out).mono ?_
    rintro e w5 ⟨rfl, e5⟩
    rw [decide_eq_true (rfl : dt = dt)]
    go_wp2_with fail
    go_ret
    exact ⟨rfl, E4.trans e5⟩
  | true =>
    have RA4 := Lib.hid (RA.out.ext ((e2.trans e3).trans e4))
    have RB4 := Lib.hid (RB.out.ext ((e2.trans e3).trans e4))
    have RD4 := Lib.hid (R3.out.ext (e3.trans e4))
    clear RA RB R3 R4 e1 e2 e3 e4 E3
    have hdk := HDK.out
    have hA := (Bool.and_eq_true_iff.1 (Bool.and_eq_true_iff.1 (Bool.and_eq_true_iff.1 hdk).1).1).1
    have hB := (Bool.and_eq_true_iff.1 (Bool.and_eq_true_iff.1 (Bool.and_eq_true_iff.1 hdk).1).1).2
    have hD := diffT_ok hdk
    obtain ⟨q1, q2, q3, q4, hrow, hcol⟩ := diff_sums hdk
    obtain ⟨_, _, h4, _, m4, _⟩ := tabOk_rect hA
    have rA := rowsum_bd hA
    have rB := rowsum_bd hB
    have cA := colsum_bd hA
    have cB := colsum_bd hB
    rw [q3, q4] at rB cB
    rw [HDT.out] at hD q1 q2 hrow hcol
    have HA := Lib.hid hA; have HB := Lib.hid hB; have HD := Lib.hid hD
    have Q1 := Lib.hid q1; have Q2 := Lib.hid q2; have Q3 := Lib.hid q3; have Q4 := Lib.hid q4; have HROW := Lib.hid hrow; have HCOL := Lib.hid hcol
    have RRA := Lib.hid rA; have RRB := Lib.hid rB; have CCA := Lib.hid cA; have CCB := Lib.hid cB
    clear hdk hA hB hD q1 q2 q3 q4 hrow hcol rA rB cA cB
    go_wp2_with fail
    refine (TableSums_any _ _ A _ RA4.out (by omega)).mono ?_
    rintro e w5 ⟨v5, u5, rfl, e5, s5⟩
    rw [HA.out, if_pos rfl] at s5
    rw [HA.out]
    go_wp2_with fail
    refine (TableSums_any _ _ B _ (RB4.out.ext e5) (by omega)).mono ?_
    rintro e w6 ⟨v6, u6, rfl, e6, s6⟩
    rw [HB.out, if_pos rfl, Q3.out, Q4.out] at s6
    rw [HB.out]
    go_wp2_with fail
    refine (TableSums_any _ _ dt _ (RD4.out.ext (e5.trans e6)) (by omega)).mono ?_
    rintro e w7 ⟨v7, u7, rfl, e7, s7⟩
    rw [HD.out, if_pos rfl, Q1.out, Q2.out] at s7
    rw [HD.out]
    obtain ⟨s51, s52⟩ := s5
    obtain ⟨s61, s62⟩ := s6
    obtain ⟨s71, s72⟩ := s7
    have t51 := owns_ext s51 (e6.trans e7)
    have t52 := owns_ext s52 (e6.trans e7)
    have t61 := owns_ext s61 e7
    have t62 := owns_ext s62 e7
    obtain ⟨a51, c51, rfl, k51⟩ := rowOf_cells t51
    obtain ⟨a52, c52, rfl, k52⟩ := rowOf_cells t52
    obtain ⟨a61, c61, rfl, k61⟩ := rowOf_cells t61
    obtain ⟨a62, c62, rfl, k62⟩ := rowOf_cells t62
    obtain ⟨a71, c71, rfl, k71⟩ := rowOf_cells s71
    obtain ⟨a72, c72, rfl, k72⟩ := rowOf_cells s72
    have K51 := Lib.hid k51; have K52 := Lib.hid k52; have K61 := Lib.hid k61; have K62 := Lib.hid k62; have K71 := Lib.hid k71; have K72 := Lib.hid k72
    have E7 := ((E4.trans e5).trans e6).trans e7
    clear s51 s52 s61 s62 s71 s72 t51 t52 t61 t62 k51 k52 k61 k62 k71 k72
    go_wp2_with fail
    go_loopg [18] A.length (fun g i wr => ∃ k : Nat, k ≤ A.length ∧ g = A.length - k ∧ i = .int .i64 k ∧ Ext w7 wr)
    case atStart => exact ⟨0, Nat.zero_le _, rfl, rfl, Ext.refl _⟩
    case round =>
      obtain ⟨k, hk, rfl, rfl, hext⟩ := hrel
      by_cases hlt : k < A.length
      · have hz : (k : Int) < (A.length : Int) := by omega
        obtain ⟨g1, rfl, d1⟩ := K51.out k hlt
        obtain ⟨g2, rfl, d2⟩ := K61.out k hlt
        obtain ⟨g3, rfl, d3⟩ := K71.out k hlt
        have d1' := hext.cell d1
        have d2' := hext.cell d2
        have d3' := hext.cell d3
        have hr := HROW.out k hlt
        have b1 := RRA.out k hlt
        have b2 := RRB.out k hlt
        obtain ⟨x, hx⟩ : ∃ x, sumN (wide A) (get 0 A k) = x := ⟨_, rfl⟩
        obtain ⟨y, hy⟩ : ∃ y, sumN (wide A) (get 0 B k) = y := ⟨_, rfl⟩
        rw [hr, hx, hy] at d3'
        rw [hx] at d1' b1
        rw [hy] at d2' b2
        clear hr hx hy d1 d2 d3
        obtain ⟨b10, b11⟩ := b1
        obtain ⟨b20, b21⟩ := b2
        have hww : IntKind.i64.wrap (x - y) = x - y := IntWalk.i64_in _ (by omega)
        have hne : (x - y != x - y) = false := by simp
        have hnl : ((A.length : Int) != (A.length : Int)) = false := by simp
        go_wp2_with fail
        go_quiet (fail)
        go_wp2_with fail
        go_roundg (A.length - (k + 1))
        case measure => omega
        case rel => exact ⟨k + 1, by omega, rfl, by go_num, hext.drewN _⟩
      · have hz : ¬ (k : Int) < (A.length : Int) := by omega
        have x7 := Lib.hid hext; clear hext
        go_wp2_with fail
        go_loopg [19] (wide A) (fun g i wi => ∃ j : Nat, j ≤ wide A ∧ g = wide A - j ∧ i = .int .i64 j ∧ Ext w7 wi)
        case atStart => exact ⟨0, Nat.zero_le _, rfl, rfl, x7.out⟩
        case round =>
          clear x7
          obtain ⟨j, hj, rfl, rfl, hext⟩ := hrel
          by_cases hjt : j < wide A
          · have hjz : (j : Int) < (wide A : Int) := by omega
            obtain ⟨g1, rfl, d1⟩ := K52.out j hjt
            obtain ⟨g2, rfl, d2⟩ := K62.out j hjt
            obtain ⟨g3, rfl, d3⟩ := K72.out j hjt
            have d1' := hext.cell d1
            have d2' := hext.cell d2
            have d3' := hext.cell d3
            have hr := HCOL.out j hjt
            have b1 := CCA.out j hjt
            have b2 := CCB.out j hjt
            obtain ⟨x, hx⟩ : ∃ x, sumN A.length (fun i => get 0 A i j) = x := ⟨_, rfl⟩
            obtain ⟨y, hy⟩ : ∃ y, sumN A.length (fun i => get 0 B i j) = y := ⟨_, rfl⟩
            rw [hr, hx, hy] at d3'
            rw [hx] at d1' b1
            rw [hy] at d2' b2
            clear hr hx hy d1 d2 d3
            obtain ⟨b10, b11⟩ := b1
            obtain ⟨b20, b21⟩ := b2
            have hww : IntKind.i64.wrap (x - y) = x - y := IntWalk.i64_in _ (by omega)
            have hne : (x - y != x - y) = false := by simp
            have hnl : ((wide A : Int) != (wide A : Int)) = false := by simp
            go_wp2_with fail
            go_quiet (fail)
            go_wp2_with fail
            go_roundg (wide A - (j + 1))
            case measure => omega
            case rel => exact ⟨j + 1, by omega, rfl, by go_num, hext.drewN _⟩
          · have hjz : ¬ (j : Int) < (wide A : Int) := by omega
            go_wp2_with fail
            go_ret
            exact ⟨rfl, E7.trans hext⟩
end Go.Proofs.Ytfompehpoanhaaa
