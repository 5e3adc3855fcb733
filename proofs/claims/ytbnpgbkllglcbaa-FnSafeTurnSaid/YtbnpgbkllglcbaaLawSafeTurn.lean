/- The law FnSafeTurn. -/
import Derived.Test.YtbnpgbkllglcbaaSafeLaw
namespace Go.Proofs.Ytbnpgbkllglcbaa
open Go.RowKit Go.DC
set_option maxRecDepth 10000 in
set_option maxHeartbeats 4000000 in
theorem FnSafeTurn_walk (a0 : Option Addr) (c0 : Nat) (xs : List Int) (w : World) (hx : Bytes w a0 xs) (hm0 : xs.length ≤ 9223372036854775807) (hl0 : xs.length ≤ c0) :
    Calls Try.prog 7 #[.slice a0 xs.length c0] w fun e w' => e = .returned (.bool true) ∧ Ext w w' := by
  by_cases hX : 1048576 < xs.length
  · have hz : (1048576 : Int) < (xs.length : Int) := by omega
    go_enter Try.func7, Try.ntmps7
    go_wp2_with fail
    go_ret
    exact ⟨rfl, Ext.refl _⟩
  have hz0 : ¬ (1048576 : Int) < (xs.length : Int) := by omega
  have hb0 : decide (1048576 < xs.length) = false := by simpa using hX
  have HX := Lib.hid hx; clear hx
  go_enter Try.func7, Try.ntmps7
  go_wp2_with fail
  refine (DrawPatternSafe_any _ _ xs _ HX.out hm0 hl0).mono ?_
  rintro e w1 ⟨a, c, A, mb, d, mk, i, j, s, rfl, ra, rb, hA4, hM5, hi, hj, hsr, e1⟩
  have RA0 := Lib.hid ra; have RB0 := Lib.hid rb
  clear ra rb
  go_wp2_with fail
  refine (PatternSafe_any _ _ _ _ A mk i j s _ RA0.out RB0.out (by omega) (by omega)).mono ?_
  rintro e w2 ⟨rfl, e2⟩
  go_wp2_with fail
  refine (sPatternSafe_any _ _ _ _ A mk i j s _ (RA0.out.ext e2) (RB0.out.ext e2) (by omega) (by omega) (by omega) (by omega) (by omega)).mono ?_
  rintro e w3 ⟨rfl, e3⟩
  have E3 := (e1.trans e2).trans e3
  cases ov : safeV A mk i j s
  · clear ov
    go_wp2_with fail
    go_ret
    exact ⟨rfl, E3⟩
  have o1 : hasC A mk i j = true := by cases h : hasC A mk i j with
    | true => rfl
    | false => rw [safeV_no h] at ov; cases ov
  have o3 : inCell s = true := by cases h : inCell s with
    | true => rfl
    | false => rw [safeV_no2 h] at ov; cases ov
  obtain ⟨k, l, rfl, rfl, hk, hl, hok⟩ := hasC_nat o1
  obtain ⟨n, m, f, b, rfl, rfl, hf⟩ := maskOk_ex hok
  have RA := Lib.hid (RA0.out.ext (e2.trans e3)); have RB := Lib.hid (RB0.out.ext (e2.trans e3))
  have hh := hf.1
  rw [wide_tabOf f (by omega)] at hl
  rw [tabOf_length] at hk
  simp only [tabOf_length]
  rw [safeV_tab hf hk hl o3] at ov
  have HSF := Lib.hid ov
  have O3 := Lib.hid o3
  obtain ⟨hs0, hs1⟩ := inCell_iff.1 o3
  have HF := Lib.hid hf
  have hkz : (k : Int) < (n : Int) := by omega
  have hlz : (l : Int) < (m : Int) := by omega
  obtain ⟨⟨hn1, hn4⟩, hm1, hm4⟩ : (1 ≤ n ∧ n ≤ 4) ∧ 1 ≤ m ∧ m ≤ 4 := ⟨⟨hh.1, hh.2.1⟩, hh.2.2⟩
  clear ov hf hh o1 o3 hok RA0 RB0 e1 e2 e3 hA4 hM5 hi hj hsr
  have hturn : safeF m n (fun i j => f j i) (fun i j => b j i) l k s = true := by rw [safeF_turn HF.out.pos hk hl]; exact HSF.out
  have HT1 := Lib.hid hturn
  clear hturn
  go_wp2_with fail
  refine (TableTurn_tab a c n m f w3 w3 RA.out HF.out (Ext.refl _)).mono ?_
  rintro e w4 ⟨a4, c4, rfl, r4, e4⟩
  have R4 := Lib.hid r4; clear r4
  go_wp2_with fail
  refine (turnMask_tab mb d n m b w4 w4 (RB.out.ext e4) hn1 hn4 hm4 (Ext.refl _)).mono ?_
  rintro e w5 ⟨a5, c5, rfl, r5, e5⟩
  have R5 := Lib.hid r5; clear r5
  go_wp2_with fail
  refine (PatternSafe_tab a4 a5 c4 c5 m n l k s _ _ w5 w5 (R4.out.ext e5) R5.out HF.out.turned hl hk O3.out (Ext.refl _)).mono ?_
  rintro e w6 ⟨rfl, e6⟩
  rw [HT1.out]
  go_wp2_with fail
  go_ret
  exact ⟨rfl, ((E3.trans e4).trans e5).trans e6⟩
end Go.Proofs.Ytbnpgbkllglcbaa
