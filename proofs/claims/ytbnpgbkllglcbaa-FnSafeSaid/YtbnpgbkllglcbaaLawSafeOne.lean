/- The law FnSafe. -/
import Derived.Test.YtbnpgbkllglcbaaSafeLaw
namespace Go.Proofs.Ytbnpgbkllglcbaa
open Go.RowKit Go.DC
set_option maxRecDepth 10000 in
set_option maxHeartbeats 4000000 in
theorem FnSafe_walk (a0 : Option Addr) (c0 : Nat) (xs : List Int) (a0b : Option Addr) (c0b : Nat) (ys : List Int) (w : World) (hx : Bytes w a0 xs) (hm0 : xs.length ≤ 9223372036854775807) (hl0 : xs.length ≤ c0) (_hy : Bytes w a0b ys) (hm0b : ys.length ≤ 9223372036854775807) (_hl0b : ys.length ≤ c0b) :
    Calls Try.prog 3 #[.slice a0 xs.length c0, .slice a0b ys.length c0b] w fun e w' => e = .returned (.bool true) ∧ Ext w w' := by
  by_cases hX : 1048576 < xs.length
  · have hz : (1048576 : Int) < (xs.length : Int) := by omega
    go_enter Try.func3, Try.ntmps3
    go_wp2_with fail
    go_ret
    exact ⟨rfl, Ext.refl _⟩
  have hz0 : ¬ (1048576 : Int) < (xs.length : Int) := by omega
  have hb0 : decide (1048576 < xs.length) = false := by simpa using hX
  by_cases hY : 1048576 < ys.length
  · have hzy : (1048576 : Int) < (ys.length : Int) := by omega
    go_enter Try.func3, Try.ntmps3
    go_wp2_with fail
    go_ret
    exact ⟨rfl, Ext.refl _⟩
  have hzy0 : ¬ (1048576 : Int) < (ys.length : Int) := by omega
  have hby0 : decide (1048576 < ys.length) = false := by simpa using hY
  have HX := Lib.hid hx; clear hx
  go_enter Try.func3, Try.ntmps3
  go_wp2_with fail
  refine (DrawPatternSafe_any _ _ xs _ HX.out hm0 hl0).mono ?_
  rintro e w1 ⟨a, c, A, mb, d, mk, i, j, s, rfl, ra, rb, hA4, hM5, hi, hj, hsr, e1⟩
  have RA0 := Lib.hid ra; have RB0 := Lib.hid rb
  clear ra rb
  go_wp2_with fail
  refine (PatternSafe_any _ _ _ _ A mk i j s _ RA0.out RB0.out (by omega) (by omega)).mono ?_
  rintro e w2 ⟨rfl, e2⟩
  go_wp2_with fail
  refine (sPatternSafe_any _ _ _ _ A mk i j s _ (RA0.out.ext e2) (RB0.out.ext e2) (by omega) (by omega) (by omega) (by omega) (by omega)).mono ?_
  rintro e w3 ⟨rfl, e3⟩
  have E3 := (e1.trans e2).trans e3
  cases ov : safeV A mk i j s
  · clear ov
    go_wp2_with fail
    go_ret
    exact ⟨rfl, E3⟩
  have o1 : hasC A mk i j = true := by cases h : hasC A mk i j with
    | true => rfl
    | false => rw [safeV_no h] at ov; cases ov
  have o3 : inCell s = true := by cases h : inCell s with
    | true => rfl
    | false => rw [safeV_no2 h] at ov; cases ov
  obtain ⟨k, l, rfl, rfl, hk, hl, hok⟩ := hasC_nat o1
  obtain ⟨n, m, f, b, rfl, rfl, hf⟩ := maskOk_ex hok
  have RA := Lib.hid (RA0.out.ext (e2.trans e3)); have RB := Lib.hid (RB0.out.ext (e2.trans e3))
  have hh := hf.1
  rw [wide_tabOf f (by omega)] at hl
  rw [tabOf_length] at hk
  simp only [tabOf_length]
  rw [safeV_tab hf hk hl o3] at ov
  have HSF := Lib.hid ov
  have O3 := Lib.hid o3
  obtain ⟨hs0, hs1⟩ := inCell_iff.1 o3
  have HF := Lib.hid hf
  have hkz : (k : Int) < (n : Int) := by omega
  have hlz : (l : Int) < (m : Int) := by omega
  obtain ⟨⟨hn1, hn4⟩, hm1, hm4⟩ : (1 ≤ n ∧ n ≤ 4) ∧ 1 ≤ m ∧ m ≤ 4 := ⟨⟨hh.1, hh.2.1⟩, hh.2.2⟩
  clear ov hf hh o1 o3 hok RA0 RB0 e1 e2 e3 hA4 hM5 hi hj hsr
  obtain ⟨hb, hge, hle⟩ := safeF_iff.1 HSF.out
  obtain ⟨tb, tf, tb2, tf2, tk, rfl, ct1, ct2⟩ := RA.out.atC 0 (rect_tabOf n m f) hk hl
  rw [get_tabOf f hk hl] at ct2
  obtain ⟨nb, mf, mb2, mf2, mk2, rfl, cm1, cm2⟩ := RB.out.atC false (rect_tabOf n m b) hk hl
  rw [get_tabOf b hk hl, hb] at cm2
  have hfb := HF.out.2 k l hk hl
  have hub := HF.out.high_bd (b := b) hk hl
  have hvb := HF.out.low_bd (b := b) hk hl
  obtain ⟨u, hu⟩ : ∃ u, high n m f b k l = u := ⟨_, rfl⟩
  obtain ⟨v, hv⟩ : ∃ v, low n m f b k l = v := ⟨_, rfl⟩
  obtain ⟨y, hy⟩ : ∃ y, f k l = y := ⟨_, rfl⟩
  rw [hu] at hge hub
  rw [hv] at hle hvb
  rw [hy] at hge hle hfb ct2
  have HU := Lib.hid hu; have HV := Lib.hid hv
  have hr0 : 0 ≤ (ys.length : Int) % (s + 1) := Int.emod_nonneg _ (by omega)
  have hr1 : (ys.length : Int) % (s + 1) < s + 1 := Int.emod_lt_of_pos _ (by omega)
  have HS2 : Hid (∀ r : Int, 0 ≤ r → r < s + 1 → inCell r = true ∧ safeF n m f b k l r = true) := fun r h0 h1 => ⟨inCell_iff.2 ⟨h0, by omega⟩, safeF_less HSF.out (by omega)⟩
  unfold encI at ct2
  unfold encB at cm2
  have c1 := ct1; have c2 := ct2
  obtain ⟨hfb0, hfb1⟩ := hfb
  obtain ⟨hub0, hub1⟩ := hub
  obtain ⟨hvb0, hvb1⟩ := hvb
  obtain ⟨q, hq⟩ : ∃ q, y - s = q := ⟨_, rfl⟩
  have hq2 : v ≤ max 0 q := by rw [← hq]; exact hle
  have hmx : (0 < y - s ∧ v ≤ y - s) ∨ (¬ 0 < y - s ∧ v ≤ 0) := by omega
  clear hb hu hv hy hq hq2 hle
  obtain ⟨z, hz⟩ : ∃ z, (ys.length : Int) % (s + 1) = z := ⟨_, rfl⟩
  rw [hz] at hr0 hr1
  obtain ⟨hi1, hi2⟩ := HS2.out z hr0 hr1
  have HI1 := Lib.hid hi1; have HI2 := Lib.hid hi2
  have hs1p : 0 < s + 1 := by omega
  clear hi1 hi2
  rcases hmx with ⟨g1, g2⟩ | ⟨g1, g2⟩
  all_goals
    go_wp2_with fail
    refine (PatternSafe_tab _ _ c d n m k l z f b w3 w3 RA.out RB.out HF.out hk hl HI1.out (Ext.refl _)).mono ?_
    rintro e w4 ⟨rfl, e4⟩
    rw [HI2.out]
    have cm1' := e4.cell cm1; have cm2' := e4.cell cm2
    go_wp2_with fail
    refine (BoundHigh_tab _ _ c d n m k l f b w4 w4 (RA.out.ext e4) (RB.out.ext e4) HF.out hk hl (Ext.refl _)).mono ?_
    rintro e w5 ⟨rfl, e5⟩
    rw [HU.out]
    go_wp2_with fail
    refine (BoundLow_tab _ _ c d n m k l f b w5 w5 (RA.out.ext (e4.trans e5)) (RB.out.ext (e4.trans e5)) HF.out hk hl (Ext.refl _)).mono ?_
    rintro e w6 ⟨rfl, e6⟩
    rw [HV.out]
    go_wp2_with fail
    go_ret
    exact ⟨by first | (simp; done) | (simp [g2]; done) | (simp [hge]; done) | (simp [g2, hge]; done), ((E3.trans e4).trans e5).trans e6⟩
end Go.Proofs.Ytbnpgbkllglcbaa
