/- The law FnDiffTurn. -/
import Derived.Test.YtfompehpoanhaaaLawTwice
import Derived.Test.YtfompehpoanhaaaTurn
import Derived.Test.YtfompehpoanhaaaRisk
import Derived.Test.YtfompehpoanhaaaFlow
namespace Go.Proofs.Ytfompehpoanhaaa
open Go.RowKit Go.DC
theorem turnM_tabOf {h m : Nat} {f : Nat → Nat → Int} (hf : InT h m f) : turnM (tabOf h m f) = tabOf m h (fun a b => f b a) := by
  have hh : 0 < h := by have := hf.1; omega
  unfold turnM turnT
  rw [if_pos (tabOk_tabOf.2 hf), wide_tabOf f hh, tabOf_length]
  exact tabOf_congr fun i j hi hj => get_tabOf f hj hi
theorem InT.turn {h m : Nat} {f : Nat → Nat → Int} (hf : InT h m f) : InT m h (fun a b => f b a) := ⟨by have := hf.1; omega, fun i j hi hj => hf.2 j i hj hi⟩
theorem diff_turn {a b : List (List Int)} (h : diffOk a b = true) : diffOk (turnM a) (turnM b) = true ∧ diffT (turnM a) (turnM b) = turnM (diffT a b) := by
  obtain ⟨n, m, f, g, rfl, rfl, hf, hg, hd, e⟩ := diffOk_ex h
  rw [e, turnM_tabOf hf, turnM_tabOf hg, turnM_tabOf hd]
  have hok : diffOk (tabOf m n fun a b => f b a) (tabOf m n fun a b => g b a) = true := diffOk_tabOf.2 ⟨hf.turn, hg.turn, hd.turn⟩
  refine ⟨hok, ?_⟩
  unfold diffT
  rw [if_pos hok, subT_tabOf _ _ (by have := hf.1; omega)]
theorem many_tabOf (h m : Nat) (b : Nat → Nat → Bool) : (manyT (tabOf h m b) : Int) = sumN h (fun i => sumN m (fun j => if b i j then 1 else 0)) := by
  have hr : ∀ (m : Nat) (g : Nat → Bool), (cntRow ((List.range m).map g) : Int) = sumN m (fun j => if g j then 1 else 0) := fun m g => by
    induction m with
    | zero => rfl
    | succ m ih =>
      rw [List.range_succ, List.map_append]
      unfold cntRow at ih ⊢
      rw [List.filter_append, List.length_append, sumN, ← ih, show List.map g [m] = [g m] from rfl]
      cases g m <;> simp
  induction h with
  | zero => rfl
  | succ h ih =>
    have e : tabOf (h + 1) m b = tabOf h m b ++ [(List.range m).map fun j => b h j] := by
      unfold tabOf
      rw [List.range_succ, List.map_append]; rfl
    rw [e]
    unfold manyT at ih ⊢
    rw [List.map_append, List.sum_append, sumN, ← ih, ← hr]
    simp
theorem smallT_tabOf (h m : Nat) (g : Nat → Nat → Int) (k : Int) : smallT (tabOf h m g) k = tabOf h m (fun i j => smallB k (g i j)) := by
  simp [smallT, tabOf]
theorem many_turn {h m : Nat} {f : Nat → Nat → Int} (hf : InT h m f) (k : Int) : manyT (smallM (tabOf m h fun a b => f b a) k) = manyT (smallM (tabOf h m f) k) := by
  unfold smallM
  rw [if_pos (tabOk_tabOf.2 hf), if_pos (tabOk_tabOf.2 hf.turn), smallT_tabOf, smallT_tabOf]
  have h1 := many_tabOf m h (fun a b => smallB k (f b a))
  have h2 := many_tabOf h m (fun a b => smallB k (f a b))
  rw [sumN_comm] at h1
  omega
theorem risk_turn {a b : List (List Int)} (h : diffOk a b = true) (k : Int) : riskOf (turnM a) (turnM b) k = riskOf a b k := by
  obtain ⟨h1, h2⟩ := diff_turn h
  unfold riskOf
  rw [if_pos h, if_pos h1, h2]
  obtain ⟨n, m, f, g, rfl, rfl, hf, hg, hd, e⟩ := diffOk_ex h
  rw [e, turnM_tabOf hd, many_turn hd]
theorem turnM_small {t : List (List Int)} : (turnM t).length ≤ 4 ∧ ∀ r ∈ turnM t, r.length ≤ 4 := by
  unfold turnM
  split
  · rename_i h
    obtain ⟨_, _, h4, _, m4, _⟩ := tabOk_rect h
    unfold turnT
    refine ⟨by rw [tabOf_length]; exact m4, fun r hr => ?_⟩
    obtain ⟨k, hk, rfl⟩ := List.getElem_of_mem hr
    rw [tabOf_rowlen]; exact h4
  · simp
set_option maxHeartbeats 4000000 in
theorem FnDiffTurn_walk (a0 : Option Addr) (c0 : Nat) (xs : List Int) (w : World) (hx : Bytes w a0 xs) (hm0 : xs.length ≤ 9223372036854775807) (hl0 : xs.length ≤ c0) :
    Calls Try.prog 12 #[.slice a0 xs.length c0] w fun e w' => e = .returned (.bool true) ∧ Ext w w' := by
  by_cases hX : 1048576 < xs.length
  · have hz : (1048576 : Int) < (xs.length : Int) := by omega
    go_enter Try.func12, Try.ntmps12
    go_wp2_with fail
    go_ret
    exact ⟨rfl, Ext.refl _⟩
  have hz0 : ¬ (1048576 : Int) < (xs.length : Int) := by omega
  have hb0 : decide (1048576 < xs.length) = false := by simpa using hX
  have HX := Lib.hid hx; clear hx
  go_enter Try.func12, Try.ntmps12
  go_wp2_with fail
  refine (DrawDiffTable_any _ _ xs _ HX.out hm0 hl0).mono ?_
  rintro e w1 ⟨v1, vs1, A, v2, vs2, B, rfl, o1, o2, hA4, hAr, hB4, hBr, e1⟩
  obtain ⟨a, c, rfl, _, ra, _⟩ := o1.rows
  obtain ⟨b, d, rfl, _, rb, _⟩ := o2.rows
  have RA := Lib.hid ra; have RB := Lib.hid rb; have HAR := Lib.hid hAr; have HBR := Lib.hid hBr
  clear ra rb o1 o2 hAr hBr
  obtain ⟨hd4, hdr, hds⟩ := diffT_small A B
  have HDR := Lib.hid hdr; clear hdr
  go_wp2_with fail
  refine (DiffTable_any _ _ _ _ A B _ RA.out RB.out (by omega) (by omega)).mono ?_
  rintro e w2 ⟨v3, vs3, rfl, o3, e2⟩
  obtain ⟨b3, d3, rfl, _, r3, _⟩ := o3.rows
  have R3 := Lib.hid r3; clear r3 o3
  go_wp2_with fail
  refine (sDiffTable_any _ _ _ _ A B _ (RA.out.ext e2) (RB.out.ext e2) (by omega) (by omega)).mono ?_
  rintro e w3 ⟨v4, vs4, rfl, o4, e3⟩
  obtain ⟨b4, d4, rfl, _, r4, _⟩ := o4.rows
  have R4 := Lib.hid r4; clear r4 o4
  have E3 := (e1.trans e2).trans e3
  obtain ⟨dt, hdt⟩ : ∃ dt, diffT A B = dt := ⟨_, rfl⟩
  obtain ⟨dk, hdk⟩ : ∃ dk, diffOk A B = dk := ⟨_, rfl⟩
  rw [hdt] at R3 R4 HDR hd4 hds
  simp only [hdt, hdk]
  have HDT := Lib.hid hdt; have HDK := Lib.hid hdk
  clear hdt hdk
  have hdl : dt.length ≤ 9223372036854775807 := by omega
  have hdr' : ∀ r ∈ dt, r.length ≤ 9223372036854775807 := fun r hr => by have := HDR.out r hr; omega
  have hbr' : ∀ r ∈ B, r.length ≤ 9223372036854775807 := fun r hr => by have := HBR.out r hr; omega
  have HDR' := Lib.hid hdr'; have HBR' := Lib.hid hbr'; clear hdr' hbr'
  have hbb : (!(dk == dk)) = false := by simp
  have hbb2 : (dk == dk) = true := by simp
  go_wp2_with fail
  refine (sameRows_any _ _ _ _ dt dt _ (R3.out.ext e3) R4.out hdl hdl HDR'.out HDR'.out).mono ?_
  rintro e w4 ⟨rfl, e4⟩
  rw [decide_eq_true (rfl : dt = dt)]
  have E4 := E3.trans e4
  cases dk with
  | false =>
    go_wp2_with fail
    refine (sameRows_any _ _ _ _ dt dt _ (R3.out.ext (e3.trans e4)) (R4.out.ext e4) hdl hdl HDR'.out HDR'.out).mono ?_
    rintro e w5 ⟨rfl, e5⟩
    rw [decide_eq_true (rfl : dt = dt)]
    go_wp2_with fail
    go_ret
    exact ⟨rfl, E4.trans e5⟩
  | true =>
    have RA4 := Lib.hid (RA.out.ext ((e2.trans e3).trans e4))
    have RB4 := Lib.hid (RB.out.ext ((e2.trans e3).trans e4))
    have RD4 := Lib.hid (R3.out.ext (e3.trans e4))
    clear RA RB R3 R4 e1 e2 e3 e4 E3
    have hdk := HDK.out
    have hA := (Bool.and_eq_true_iff.1 (Bool.and_eq_true_iff.1 (Bool.and_eq_true_iff.1 hdk).1).1).1
    have hB := (Bool.and_eq_true_iff.1 (Bool.and_eq_true_iff.1 (Bool.and_eq_true_iff.1 hdk).1).1).2
    have hD := diffT_ok hdk
    obtain ⟨ht1, ht2⟩ := diff_turn hdk
    have hrk := risk_turn hdk 3
    rw [HDT.out] at hD ht2
    obtain ⟨hl1, _⟩ := turnM_small (t := A)
    obtain ⟨hl2, _⟩ := turnM_small (t := B)
    obtain ⟨hl3, hl3r⟩ := turnM_small (t := dt)
    have HA := Lib.hid hA; have HB := Lib.hid hB; have HD := Lib.hid hD; have HT1 := Lib.hid ht1; have HT2 := Lib.hid ht2; have HRK := Lib.hid hrk; have HL3 := Lib.hid hl3r
    clear hdk hA hB hD ht1 ht2 hrk hl3r
    go_wp2_with fail
    refine (TableTurn_any _ _ A _ RA4.out (by omega)).mono ?_
    rintro e w5 ⟨v5, vs5, rfl, o5, e5⟩
    rw [HA.out]
    obtain ⟨a5, c5, rfl, _, r5, _⟩ := o5.rows
    have R5 := Lib.hid r5; clear r5 o5
    go_wp2_with fail
    refine (TableTurn_any _ _ B _ (RB4.out.ext e5) (by omega)).mono ?_
    rintro e w6 ⟨v6, vs6, rfl, o6, e6⟩
    rw [HB.out]
    obtain ⟨a6, c6, rfl, _, r6, _⟩ := o6.rows
    have R6 := Lib.hid r6; clear r6 o6
    go_wp2_with fail
    refine (DiffTable_any _ _ _ _ (turnM A) (turnM B) _ (R5.out.ext e6) R6.out (by omega) (by omega)).mono ?_
    rintro e w7 ⟨v7, vs7, rfl, o7, e7⟩
    rw [HT1.out]
    rw [HT2.out] at o7
    obtain ⟨a7, c7, rfl, _, r7, _⟩ := o7.rows
    have R7 := Lib.hid r7; clear r7 o7
    go_wp2_with fail
    refine (TableTurn_any _ _ dt _ (RD4.out.ext ((e5.trans e6).trans e7)) (by omega)).mono ?_
    rintro e w8 ⟨v8, vs8, rfl, o8, e8⟩
    rw [HD.out]
    obtain ⟨a8, c8, rfl, _, r8, _⟩ := o8.rows
    have R8 := Lib.hid r8; clear r8 o8
    go_wp2_with fail
    refine (sameRows_any _ _ _ _ (turnM dt) (turnM dt) _ (R7.out.ext e8) R8.out (by omega) (by omega) (fun r hr => by have := HL3.out r hr; omega) (fun r hr => by have := HL3.out r hr; omega)).mono ?_
    rintro e w9 ⟨rfl, e9⟩
    rw [decide_eq_true (rfl : turnM dt = turnM dt)]
    have x69 := (e7.trans e8).trans e9
    have x49 := (e5.trans e6).trans x69
    go_wp2_with fail
    refine (DiffRisk_any _ _ _ _ (turnM A) (turnM B) 3 _ (R5.out.ext (e6.trans x69)) (R6.out.ext x69) (by omega) (by omega) (by omega)).mono ?_
    rintro e w10 ⟨rfl, e10⟩
    rw [HRK.out]
    obtain ⟨u, hu⟩ : ∃ u, riskOf A B 3 = u := ⟨_, rfl⟩
    have HU := Lib.hid hu
    rw [hu]
    clear hu
    have hee : (u == u) = true := by simp
    go_wp2_with fail
    refine (DiffRisk_any _ _ _ _ A B 3 _ (RA4.out.ext (x49.trans e10)) (RB4.out.ext (x49.trans e10)) (by omega) (by omega) (by omega)).mono ?_
    rintro e w11 ⟨rfl, e11⟩
    rw [HU.out]
    go_wp2_with fail
    go_ret
    exact ⟨rfl, (E4.trans x49).trans (e10.trans e11)⟩
end Go.Proofs.Ytfompehpoanhaaa
