/- The law FnDiffFold. -/
import Derived.Test.YtfompehpoanhaaaLawTwice
import Derived.Test.YtfompehpoanhaaaFold
import Derived.Test.YtfompehpoanhaaaRisk
import Derived.Test.YtfompehpoanhaaaCells
namespace Go.Proofs.Ytfompehpoanhaaa
open Go.RowKit Go.DC
theorem fold_tabOf {h m : Nat} {f : Nat → Nat → Int} (hh : 0 < h) : fold01 (tabOf h m f) = tabOf (h - 1) m (foldG f) ∨ h < 2 := by
  by_cases h2 : 2 ≤ h
  · left
    unfold fold01
    rw [tabOf_length, wide_tabOf f hh]
    refine tabOf_congr fun i j hi hj => ?_
    unfold foldG
    split
    · rw [get_tabOf f (by omega) hj, get_tabOf f (by omega) hj]
    · rw [get_tabOf f (by omega) hj]
  · right; omega
theorem foldOk_parts {t : List (List Int)} (h : foldOk t = true) : tabOk t = true ∧ 2 ≤ t.length ∧ tabOk (fold01 t) = true := by
  unfold foldOk at h
  simp only [Bool.and_eq_true, decide_eq_true_eq] at h
  exact ⟨h.1.1, h.1.2, h.2⟩
theorem foldG_sub (f g : Nat → Nat → Int) : (fun i j => foldG f i j - foldG g i j) = foldG (fun i j => f i j - g i j) := by
  funext i j
  unfold foldG
  split
  · dsimp only; omega
  · rfl
theorem diff_fold {a b : List (List Int)} (h : diffOk a b = true) (h1 : foldOk a = true) (h2 : foldOk b = true) : foldOk (diffT a b) = true ∧ diffOk (foldT a) (foldT b) = true ∧ diffT (foldT a) (foldT b) = foldT (diffT a b) := by
  obtain ⟨n, m, f, g, rfl, rfl, hf, hg, hd, e⟩ := diffOk_ex h
  have hn : 0 < n := by have := hf.1; omega
  obtain ⟨_, hl, q1⟩ := foldOk_parts h1
  obtain ⟨_, _, q2⟩ := foldOk_parts h2
  rw [tabOf_length] at hl
  have e1 := (fold_tabOf (m := m) (f := f) hn).resolve_right (by omega)
  have e2 := (fold_tabOf (m := m) (f := g) hn).resolve_right (by omega)
  have e3 := (fold_tabOf (m := m) (f := fun i j => f i j - g i j) hn).resolve_right (by omega)
  rw [e1, tabOk_tabOf] at q1
  rw [e2, tabOk_tabOf] at q2
  have q3 : InT (n - 1) m (foldG fun i j => f i j - g i j) := ⟨q1.1, fun i j hi hj => by
    have a1 := q1.2 i j hi hj
    have a2 := q2.2 i j hi hj
    unfold foldG at a1 a2 ⊢
    split
    · rename_i e0
      rw [if_pos e0] at a1 a2
      have b1 : 0 ≤ f 0 j - g 0 j ∧ _ := hd.2 0 j (by omega) hj
      have b2 : 0 ≤ f 1 j - g 1 j ∧ _ := hd.2 1 j (by omega) hj
      have c1 := hg.2 0 j (by omega) hj
      have c2 := hg.2 1 j (by omega) hj
      show 0 ≤ (f 0 j - g 0 j) + (f 1 j - g 1 j) ∧ (f 0 j - g 0 j) + (f 1 j - g 1 j) ≤ 99
      omega
    · exact hd.2 (i + 1) j (by omega) hj⟩
  have hok3 : foldOk (tabOf n m fun i j => f i j - g i j) = true := by
    unfold foldOk
    rw [e3, tabOk_tabOf.2 q3, tabOk_tabOf.2 hd, tabOf_length]
    simpa using hl
  have hok : diffOk (tabOf (n - 1) m (foldG f)) (tabOf (n - 1) m (foldG g)) = true := diffOk_tabOf.2 ⟨q1, q2, by rw [foldG_sub]; exact q3⟩
  rw [e]
  refine ⟨hok3, ?_, ?_⟩
  · unfold foldT; rw [if_pos h1, if_pos h2, e1, e2]; exact hok
  · unfold foldT
    rw [if_pos h1, if_pos h2, if_pos hok3, e1, e2, e3]
    unfold diffT
    rw [if_pos hok, subT_tabOf _ _ (by omega), foldG_sub]
theorem foldT_small (t : List (List Int)) : (foldT t).length ≤ 4 ∧ ∀ r ∈ foldT t, r.length ≤ 4 := by
  unfold foldT
  split
  · rename_i h
    obtain ⟨_, _, q⟩ := foldOk_parts h
    obtain ⟨r, _, h4, _, m4, _⟩ := tabOk_rect q
    refine ⟨h4, fun x hx => ?_⟩
    obtain ⟨k, hk, rfl⟩ := List.getElem_of_mem hx
    rw [r.2 k hk]; exact m4
  · simp
set_option maxHeartbeats 4000000 in
theorem FnDiffFold_walk (a0 : Option Addr) (c0 : Nat) (xs : List Int) (w : World) (hx : Bytes w a0 xs) (hm0 : xs.length ≤ 9223372036854775807) (hl0 : xs.length ≤ c0) :
    Calls Try.prog 9 #[.slice a0 xs.length c0] w fun e w' => e = .returned (.bool true) ∧ Ext w w' := by
  by_cases hX : 1048576 < xs.length
  · have hz : (1048576 : Int) < (xs.length : Int) := by omega
    go_enter Try.func9, Try.ntmps9
    go_wp2_with fail
    go_ret
    exact ⟨rfl, Ext.refl _⟩
  have hz0 : ¬ (1048576 : Int) < (xs.length : Int) := by omega
  have hb0 : decide (1048576 < xs.length) = false := by simpa using hX
  have HX := Lib.hid hx; clear hx
  go_enter Try.func9, Try.ntmps9
  go_wp2_with fail
  refine (DrawDiffTable_any _ _ xs _ HX.out hm0 hl0).mono ?_
  rintro e w1 ⟨v1, vs1, A, v2, vs2, B, rfl, o1, o2, hA4, hAr, hB4, hBr, e1⟩
  obtain ⟨a, c, rfl, _, ra, _⟩ := o1.rows
  obtain ⟨b, d, rfl, _, rb, _⟩ := o2.rows
  have RA := Lib.hid ra; have RB := Lib.hid rb; have HAR := Lib.hid hAr; have HBR := Lib.hid hBr
  clear ra rb o1 o2 hAr hBr
  obtain ⟨hd4, hdr, hds⟩ := diffT_small A B
  have HDR := Lib.hid hdr; clear hdr
  go_wp2_with fail
  refine (DiffTable_any _ _ _ _ A B _ RA.out RB.out (by omega) (by omega)).mono ?_
  rintro e w2 ⟨v3, vs3, rfl, o3, e2⟩
  obtain ⟨b3, d3, rfl, _, r3, _⟩ := o3.rows
  have R3 := Lib.hid r3; clear r3 o3
  go_wp2_with fail
  refine (sDiffTable_any _ _ _ _ A B _ (RA.out.ext e2) (RB.out.ext e2) (by omega) (by omega)).mono ?_
  rintro e w3 ⟨v4, vs4, rfl, o4, e3⟩
  obtain ⟨b4, d4, rfl, _, r4, _⟩ := o4.rows
  have R4 := Lib.hid r4; clear r4 o4
  have E3 := (e1.trans e2).trans e3
  obtain ⟨dt, hdt⟩ : ∃ dt, diffT A B = dt := ⟨_, rfl⟩
  obtain ⟨dk, hdk⟩ : ∃ dk, diffOk A B = dk := ⟨_, rfl⟩
  rw [hdt] at R3 R4 HDR hd4 hds
  simp only [hdt, hdk]
  have HDT := Lib.hid hdt; have HDK := Lib.hid hdk
  clear hdt hdk
  have hdl : dt.length ≤ 9223372036854775807 := by omega
  have hdr' : ∀ r ∈ dt, r.length ≤ 9223372036854775807 := fun r hr => by have := HDR.out r hr; omega
  have hbr' : ∀ r ∈ B, r.length ≤ 9223372036854775807 := fun r hr => by have := HBR.out r hr; omega
  have HDR' := Lib.hid hdr'; have HBR' := Lib.hid hbr'; clear hdr' hbr'
  have hbb : (!(dk == dk)) = false := by simp
  have hbb2 : (dk == dk) = true := by simp
  go_wp2_with fail
  refine (sameRows_any _ _ _ _ dt dt _ (R3.out.ext e3) R4.out hdl hdl HDR'.out HDR'.out).mono ?_
  rintro e w4 ⟨rfl, e4⟩
  rw [decide_eq_true (rfl : dt = dt)]
  have E4 := E3.trans e4
  cases dk with
  | false =>
    go_wp2_with fail
    refine (sameRows_any _ _ _ _ dt dt _ (R3.out.ext (e3.trans e4)) (R4.out.ext e4) hdl hdl HDR'.out HDR'.out).mono ?_
    rintro e w5 ⟨rfl, e5⟩
    rw [decide_eq_true (rfl : dt = dt)]
    go_wp2_with fail
    go_ret
    exact ⟨rfl, E4.trans e5⟩
  | true =>
    have RA4 := Lib.hid (RA.out.ext ((e2.trans e3).trans e4))
    have RB4 := Lib.hid (RB.out.ext ((e2.trans e3).trans e4))
    have RD4 := Lib.hid (R3.out.ext (e3.trans e4))
    clear RA RB R3 R4 e1 e2 e3 e4 E3
    have hdk := HDK.out
    have hD := diffT_ok hdk
    have hff := diff_fold hdk
    rw [HDT.out] at hD hff
    have HD := Lib.hid hD; have HFF := Lib.hid hff
    clear hdk hD hff
    obtain ⟨hfa, _⟩ := foldT_small A
    obtain ⟨hfb, _⟩ := foldT_small B
    obtain ⟨hfd, hfdr⟩ := foldT_small dt
    have HFR := Lib.hid hfdr; clear hfdr
    go_wp2_with fail
    refine (TableFold_any _ _ A _ RA4.out (by omega)).mono ?_
    rintro e w5 ⟨v5, vs5, rfl, o5, e5⟩
    obtain ⟨a5, c5, rfl, _, r5, _⟩ := o5.rows
    have R5 := Lib.hid r5; clear r5 o5
    go_wp2_with fail
    refine (TableFold_any _ _ B _ (RB4.out.ext e5) (by omega)).mono ?_
    rintro e w6 ⟨v6, vs6, rfl, o6, e6⟩
    obtain ⟨a6, c6, rfl, _, r6, _⟩ := o6.rows
    have R6 := Lib.hid r6; clear r6 o6
    have x46 := e5.trans e6
    have tv := TableValid_any b3 d3 dt w6 (RD4.out.ext x46) hdl
    rw [HD.out] at tv
    have TV := Lib.hid tv; clear tv
    by_cases hAB : foldOk A = true ∧ foldOk B = true
    · obtain ⟨hA, hB⟩ := hAB
      obtain ⟨k1, k2, k3⟩ := HFF.out hA hB
      have K1 := Lib.hid k1; have K2 := Lib.hid k2; have K3 := Lib.hid k3
      rw [hA, hB]
      clear hA hB k1 k2 k3
      go_wp2_with fail
      refine (DiffTable_any _ _ _ _ (foldT A) (foldT B) _ (R5.out.ext e6) R6.out (by omega) (by omega)).mono ?_
      rintro e w7 ⟨v7, vs7, rfl, o7, e7⟩
      rw [K2.out]
      rw [K3.out] at o7
      obtain ⟨a7, c7, rfl, _, r7, _⟩ := o7.rows
      have R7 := Lib.hid r7; clear r7 o7
      go_wp2_with fail
      refine (TableFold_any _ _ dt _ (RD4.out.ext (x46.trans e7)) (by omega)).mono ?_
      rintro e w8 ⟨v8, vs8, rfl, o8, e8⟩
      rw [K1.out]
      obtain ⟨a8, c8, rfl, _, r8, _⟩ := o8.rows
      have R8 := Lib.hid r8; clear r8 o8
      go_wp2_with fail
      refine (sameRows_any _ _ _ _ (foldT dt) (foldT dt) _ (R7.out.ext e8) R8.out (by omega) (by omega) (fun r hr => by have := HFR.out r hr; omega) (fun r hr => by have := HFR.out r hr; omega)).mono ?_
      rintro e w9 ⟨rfl, e9⟩
      rw [decide_eq_true (rfl : foldT dt = foldT dt)]
      go_wp2_with fail
      go_ret
      exact ⟨rfl, (E4.trans x46).trans ((e7.trans e8).trans e9)⟩
    · have HNo := Lib.hid hAB; clear hAB
      have hlA : A.length < 2 ∨ ¬ A.length < 2 := by omega
      cases hA : foldOk A with
      | false =>
        clear hA
        rcases hlA with hlA | hlA
        · have hz : (A.length : Int) < 2 := by omega
          go_wp2_with fail
          go_ret
          exact ⟨rfl, E4.trans x46⟩
        · have hz : ¬ (A.length : Int) < 2 := by omega
          have hzb : decide ((A.length : Int) < 2) = false := by simpa using hz
          have hzb2 : decide (A.length < 2) = false := by simpa using hlA
          go_wp2_with fail
          refine TV.out.mono ?_
          rintro e w7 ⟨rfl, rfl⟩
          go_wp2_with fail
          go_ret
          exact ⟨rfl, E4.trans x46⟩
      | true =>
        have hB : foldOk B = false := by
          cases hB : foldOk B with
          | false => rfl
          | true => exact absurd ⟨hA, hB⟩ HNo.out
        rw [hB]
        clear hA hB
        rcases hlA with hlA | hlA
        · have hz : (A.length : Int) < 2 := by omega
          go_wp2_with fail
          go_ret
          exact ⟨rfl, E4.trans x46⟩
        · have hz : ¬ (A.length : Int) < 2 := by omega
          have hzb : decide ((A.length : Int) < 2) = false := by simpa using hz
          have hzb2 : decide (A.length < 2) = false := by simpa using hlA
          go_wp2_with fail
          refine TV.out.mono ?_
          rintro e w7 ⟨rfl, rfl⟩
          go_wp2_with fail
          go_ret
          exact ⟨rfl, E4.trans x46⟩
end Go.Proofs.Ytfompehpoanhaaa
