/- The law FnDiff. -/
import Derived.Test.YtfompehpoanhaaaLawTwice
import Derived.Test.YtfompehpoanhaaaSums
import Derived.Test.YtfompehpoanhaaaFlow
import Derived.Test.YtfompehpoanhaaaRisk
import Derived.Test.YtfompehpoanhaaaCells
namespace Go.Proofs.Ytfompehpoanhaaa
open Go.RowKit Go.DC
theorem diff_self {a : List (List Int)} (h : tabOk a = true) : diffOk a a = true ∧ totalOf (diffT a a) = 0 := by
  obtain ⟨n, m, f, rfl, hf⟩ := tabOk_ex h
  have hn : 0 < n := by have := hf.1; omega
  have hz : InT n m (fun i j => f i j - f i j) := ⟨hf.1, fun i j _ _ => by show 0 ≤ f i j - f i j ∧ f i j - f i j ≤ 99; omega⟩
  have hok : diffOk (tabOf n m f) (tabOf n m f) = true := diffOk_tabOf.2 ⟨hf, hf, hz⟩
  refine ⟨hok, ?_⟩
  unfold diffT
  rw [if_pos hok, subT_tabOf _ _ hn]
  unfold totalOf totT
  rw [if_pos (tabOk_tabOf.2 hz), tabOf_length, wide_tabOf _ hn]
  rw [sumN_congr (g := fun _ => 0) (fun i hi => by rw [sumN_congr (g := fun _ => 0) (fun j hj => by rw [get_tabOf _ hi hj]; omega), sumN_zero]), sumN_zero]
theorem tot_tabOf {n m : Nat} {f : Nat → Nat → Int} (hf : InT n m f) : totalOf (tabOf n m f) = sumN n (fun i => sumN m (f i)) := by
  have hn : 0 < n := by have := hf.1; omega
  unfold totalOf totT
  rw [if_pos (tabOk_tabOf.2 hf), tabOf_length, wide_tabOf _ hn]
  exact sumN_congr fun i hi => sumN_congr fun j hj => get_tabOf _ hi hj
theorem diff_total {a b : List (List Int)} (h : diffOk a b = true) : totalOf (diffT a b) + totalOf b = totalOf a := by
  obtain ⟨n, m, f, g, rfl, rfl, hf, hg, hd, e⟩ := diffOk_ex h
  rw [e, tot_tabOf hf, tot_tabOf hg, tot_tabOf hd, ← sumN_add]
  refine sumN_congr fun i hi => ?_
  rw [← sumN_add]
  exact sumN_congr fun j hj => by omega
theorem totalOf_bd {t : List (List Int)} (h : tabOk t = true) : 0 ≤ totalOf t ∧ totalOf t ≤ 1584 := by
  obtain ⟨_, _, h4, _, m4, hc⟩ := tabOk_rect h
  unfold totalOf totT
  rw [if_pos h]
  have a1 := sum_bd (n := t.length) (F := fun i => sumN (wide t) (get 0 t i)) (B := 396) (fun i hi => by have := rowsum_bd h i hi; omega) t.length (Nat.le_refl _)
  have a2 := sumN_nonneg (n := t.length) (f := fun i => sumN (wide t) (get 0 t i)) (fun i hi => (rowsum_bd h i hi).1)
  omega
theorem diff_cells {a b : List (List Int)} (h : diffOk a b = true) : Rect a a.length (wide a) ∧ Rect b a.length (wide a) ∧ Rect (diffT a b) a.length (wide a) ∧ ∀ i j, i < a.length → j < wide a → get 0 (diffT a b) i j + get 0 b i j = get 0 a i j ∧ -1000 ≤ get 0 (diffT a b) i j ∧ get 0 (diffT a b) i j ≤ 1000 ∧ -1000 ≤ get 0 b i j ∧ get 0 b i j ≤ 1000 := by
  obtain ⟨n, m, f, g, rfl, rfl, hf, hg, hd, e⟩ := diffOk_ex h
  have hn : 0 < n := by have := hf.1; omega
  rw [e, tabOf_length, wide_tabOf f hn]
  refine ⟨rect_tabOf _ _ _, rect_tabOf _ _ _, rect_tabOf _ _ _, fun i j hi hj => ?_⟩
  rw [get_tabOf _ hi hj, get_tabOf _ hi hj, get_tabOf _ hi hj]
  have h1 : 0 ≤ f i j - g i j ∧ f i j - g i j ≤ 99 := hd.2 i j hi hj
  have h2 := hg.2 i j hi hj
  omega
set_option maxHeartbeats 4000000 in
theorem FnDiff_walk (a0 : Option Addr) (c0 : Nat) (xs : List Int) (w : World) (hx : Bytes w a0 xs) (hm0 : xs.length ≤ 9223372036854775807) (hl0 : xs.length ≤ c0) :
    Calls Try.prog 8 #[.slice a0 xs.length c0] w fun e w' => e = .returned (.bool true) ∧ Ext w w' := by
  by_cases hX : 1048576 < xs.length
  · have hz : (1048576 : Int) < (xs.length : Int) := by omega
    go_enter Try.func8, Try.ntmps8
    go_wp2_with fail
    go_ret
    exact ⟨rfl, Ext.refl _⟩
  have hz0 : ¬ (1048576 : Int) < (xs.length : Int) := by omega
  have hb0 : decide (1048576 < xs.length) = false := by simpa using hX
  have HX := Lib.hid hx; clear hx
  go_enter Try.func8, Try.ntmps8
  go_wp2_with fail
  refine (DrawDiffTable_any _ _ xs _ HX.out hm0 hl0).mono ?_
  rintro e w1 ⟨v1, vs1, A, v2, vs2, B, rfl, o1, o2, hA4, hAr, hB4, hBr, e1⟩
  obtain ⟨a, c, rfl, _, ra, _⟩ := o1.rows
  obtain ⟨b, d, rfl, _, rb, _⟩ := o2.rows
  have RA := Lib.hid ra; have RB := Lib.hid rb; have HAR := Lib.hid hAr; have HBR := Lib.hid hBr
  clear ra rb o1 o2 hAr hBr
  obtain ⟨hd4, hdr, hds⟩ := diffT_small A B
  have HDR := Lib.hid hdr; clear hdr
  go_wp2_with fail
  refine (DiffTable_any _ _ _ _ A B _ RA.out RB.out (by omega) (by omega)).mono ?_
  rintro e w2 ⟨v3, vs3, rfl, o3, e2⟩
  obtain ⟨b3, d3, rfl, _, r3, _⟩ := o3.rows
  have R3 := Lib.hid r3; clear r3 o3
  go_wp2_with fail
  refine (sDiffTable_any _ _ _ _ A B _ (RA.out.ext e2) (RB.out.ext e2) (by omega) (by omega)).mono ?_
  rintro e w3 ⟨v4, vs4, rfl, o4, e3⟩
  obtain ⟨b4, d4, rfl, _, r4, _⟩ := o4.rows
  have R4 := Lib.hid r4; clear r4 o4
  have E3 := (e1.trans e2).trans e3
  obtain ⟨dt, hdt⟩ : ∃ dt, diffT A B = dt := ⟨_, rfl⟩
  obtain ⟨dk, hdk⟩ : ∃ dk, diffOk A B = dk := ⟨_, rfl⟩
  rw [hdt] at R3 R4 HDR hd4 hds
  simp only [hdt, hdk]
  have HDT := Lib.hid hdt; have HDK := Lib.hid hdk
  clear hdt hdk
  have hdl : dt.length ≤ 9223372036854775807 := by omega
  have hdr' : ∀ r ∈ dt, r.length ≤ 9223372036854775807 := fun r hr => by have := HDR.out r hr; omega
  have hbr' : ∀ r ∈ B, r.length ≤ 9223372036854775807 := fun r hr => by have := HBR.out r hr; omega
  have HDR' := Lib.hid hdr'; have HBR' := Lib.hid hbr'; clear hdr' hbr'
  have hbb : (!(dk == dk)) = false := by simp
  have hbb2 : (dk == dk) = true := by simp
  go_wp2_with fail
  refine (sameRows_any _ _ _ _ dt dt _ (R3.out.ext e3) R4.out hdl hdl HDR'.out HDR'.out).mono ?_
  rintro e w4 ⟨rfl, e4⟩
  rw [decide_eq_true (rfl : dt = dt)]
  have E4 := E3.trans e4
  cases dk with
  | false =>
    go_wp2_with fail
    refine (sameRows_any _ _ _ _ dt dt _ (R3.out.ext (e3.trans e4)) (R4.out.ext e4) hdl hdl HDR'.out HDR'.out).mono ?_
    rintro e w5 ⟨rfl, e5⟩
    rw [decide_eq_true (rfl : dt = dt)]
    go_wp2_with fail
    go_ret
    exact ⟨rfl, E4.trans e5⟩
  | true =>
    have RA4 := Lib.hid (RA.out.ext ((e2.trans e3).trans e4))
    have RB4 := Lib.hid (RB.out.ext ((e2.trans e3).trans e4))
    have RD4 := Lib.hid (R3.out.ext (e3.trans e4))
    clear RA RB R3 R4 e1 e2 e3 e4 E3
    have hdk := HDK.out
    have hA := (Bool.and_eq_true_iff.1 (Bool.and_eq_true_iff.1 (Bool.and_eq_true_iff.1 hdk).1).1).1
    have hB := (Bool.and_eq_true_iff.1 (Bool.and_eq_true_iff.1 (Bool.and_eq_true_iff.1 hdk).1).1).2
    have hD := diffT_ok hdk
    obtain ⟨hs1, hs2⟩ := diff_self hA
    have hM4 := (tabOk_rect hA).2.2.2.2.1
    have htt := diff_total hdk
    obtain ⟨hra, hrb, hrd, hcl⟩ := diff_cells hdk
    have hbd1 := totalOf_bd hD
    have hbd2 := totalOf_bd hB
    rw [HDT.out] at hD htt hrd hcl hbd1
    have HA := Lib.hid hA; have HB := Lib.hid hB; have HD := Lib.hid hD; have HS1 := Lib.hid hs1; have HS2 := Lib.hid hs2; have HTT := Lib.hid htt
    have RRA := Lib.hid hra; have RRB := Lib.hid hrb; have RRD := Lib.hid hrd; have HCL := Lib.hid hcl
    obtain ⟨hu0, hu1⟩ := hbd1
    obtain ⟨hv0, hv1⟩ := hbd2
    have hlb : B.length = A.length := hrb.1
    have hld : dt.length = A.length := hrd.1
    have HLB := Lib.hid hlb; have HLD := Lib.hid hld
    clear hdk hA hB hD hs1 hs2 htt hra hrb hrd hcl hlb hld
    obtain ⟨M, hM⟩ : ∃ M, wide A = M := ⟨_, rfl⟩
    rw [hM] at RRA RRB RRD HCL hM4
    clear hM
    go_wp2_with fail
    go_loopg [9] A.length (fun g i wr => ∃ k : Nat, k ≤ A.length ∧ g = A.length - k ∧ i = .int .i64 k ∧ Ext w4 wr)
    case atStart => exact ⟨0, Nat.zero_le _, rfl, rfl, Ext.refl _⟩
    case round =>
      obtain ⟨k, hk, rfl, rfl, hext⟩ := hrel
      by_cases hlt : k < A.length
      · have hz : (k : Int) < (A.length : Int) := by omega
        go_wp2_with fail
        go_loopg [10] M (fun g i wi => ∃ j : Nat, j ≤ M ∧ g = M - j ∧ i = .int .i64 j ∧ Ext w4 wi)
        case atStart => exact ⟨0, Nat.zero_le _, rfl, rfl, hext⟩
        case round =>
          clear hext
          obtain ⟨j, hj, rfl, rfl, hext⟩ := hrel
          by_cases hjt : j < M
          · have hjz : (j : Int) < (M : Int) := by omega
            obtain ⟨_, _, tb2, tf2, tk, ea, ct1, ct2⟩ := (RA4.out.ext hext).atC 0 RRA.out hlt hjt
            cases ea
            obtain ⟨_, _, tb3, tf3, tk3, ea, cu1, cu2⟩ := (RB4.out.ext hext).atC 0 RRB.out hlt hjt
            cases ea
            obtain ⟨_, _, tb4, tf4, tk4, ea, cd1, cd2⟩ := (RD4.out.ext hext).atC 0 RRD.out hlt hjt
            cases ea
            obtain ⟨hsum, g1, g2, g3, g4⟩ := HCL.out k j hlt hjt
            obtain ⟨x, hx⟩ : ∃ x, get 0 dt k j = x := ⟨_, rfl⟩
            obtain ⟨y, hy⟩ : ∃ y, get 0 B k j = y := ⟨_, rfl⟩
            rw [← hsum] at ct2
            rw [hx, hy] at ct2
            rw [hx] at cd2 g1 g2
            rw [hy] at cu2 g3 g4
            clear hsum hx hy
            unfold encI at ct2 cu2 cd2
            have hkb : (k : Int) < (B.length : Int) := by have := HLB.out; omega
            have hkd : (k : Int) < (dt.length : Int) := by have := HLD.out; omega
            have hww : IntKind.i64.wrap (x + y) = x + y := IntWalk.i64_in _ (by omega)
            have hne : (x + y != x + y) = false := by simp
            go_wp2_with fail
            go_quiet (fail)
            go_wp2_with fail
            go_roundg (M - (j + 1))
            case measure => omega
            case rel => exact ⟨j + 1, by omega, rfl, by go_num, hext.drewN _⟩
          · have hjz : ¬ (j : Int) < (M : Int) := by omega
            obtain ⟨_, _, _, _, ea, hco⟩ := (RA4.out.ext hext).rowC RRA.out hlt
            cases ea
            go_wp2_with fail
            go_roundg (A.length - (k + 1))
            case measure => omega
            case rel => exact ⟨k + 1, by omega, rfl, by go_num, hext⟩
      · have hz : ¬ (k : Int) < (A.length : Int) := by omega
        go_wp2_with fail
        refine (DiffTable_any _ _ _ _ A A _ (RA4.out.ext hext) (RA4.out.ext hext) (by omega) (by omega)).mono ?_
        rintro e w5 ⟨v5, vs5, rfl, o5, e5⟩
        rw [HS1.out]
        obtain ⟨a5, c5, rfl, _, r5, _⟩ := o5.rows
        obtain ⟨hl5, _, _⟩ := diffT_small A A
        have R5 := Lib.hid r5; clear r5 o5
        go_wp2_with fail
        refine (TableTotal_any _ _ (diffT A A) _ R5.out (by omega)).mono ?_
        rintro e w6 ⟨rfl, e6⟩
        rw [HS2.out]
        have x46 := (hext.trans e5).trans e6
        obtain ⟨u, hu⟩ : ∃ u, totalOf dt = u := ⟨_, rfl⟩
        obtain ⟨v, hv⟩ : ∃ v, totalOf B = v := ⟨_, rfl⟩
        have htt : totalOf A = u + v := by rw [← hu, ← hv]; exact HTT.out.symm
        rw [hu] at hu0 hu1
        rw [hv] at hv0 hv1
        have HU := Lib.hid hu; have HVV := Lib.hid hv; have HT2 := Lib.hid htt
        clear hu hv htt
        go_wp2_with fail
        refine (TableTotal_any _ _ dt _ (RD4.out.ext x46) (by omega)).mono ?_
        rintro e w7 ⟨rfl, e7⟩
        rw [HU.out]
        go_wp2_with fail
        refine (TableTotal_any _ _ B _ (RB4.out.ext (x46.trans e7)) (by omega)).mono ?_
        rintro e w8 ⟨rfl, e8⟩
        rw [HVV.out]
        have hww : IntKind.i64.wrap (u + v) = u + v := IntWalk.i64_in _ (by omega)
        go_wp2_with fail
        refine (TableTotal_any _ _ A _ (RA4.out.ext ((x46.trans e7).trans e8)) (by omega)).mono ?_
        rintro e w9 ⟨rfl, e9⟩
        rw [HT2.out]
        have hee : (u + v == u + v) = true := by simp
        go_wp2_with fail
        go_ret
        exact ⟨rfl, E4.trans (((x46.trans e7).trans e8).trans e9)⟩
end Go.Proofs.Ytfompehpoanhaaa
