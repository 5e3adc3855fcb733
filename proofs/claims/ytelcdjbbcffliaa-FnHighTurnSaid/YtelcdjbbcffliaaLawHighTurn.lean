/- The law FnHighTurn. -/
import Derived.Test.YtelcdjbbcffliaaBndLaw
import Derived.Test.YtelcdjbbcffliaaSPath
import Derived.Test.YtelcdjbbcffliaaTabDraw
namespace Go.Proofs.Ytelcdjbbcffliaa
open Go.RowKit Go.DC
set_option maxRecDepth 10000 in
set_option maxHeartbeats 4000000 in
theorem FnHighTurn_walk (a0 : Option Addr) (c0 : Nat) (xs : List Int) (w : World) (hx : Bytes w a0 xs) (hm0 : xs.length ≤ 9223372036854775807) (hl0 : xs.length ≤ c0) :
    Calls Try.prog 8 #[.slice a0 xs.length c0] w fun e w' => e = .returned (.bool true) ∧ Ext w w' := by
  by_cases hX : 1048576 < xs.length
  · have hz : (1048576 : Int) < (xs.length : Int) := by omega
    go_enter Try.func8, Try.ntmps8
    go_wp2_with fail
    go_ret
    exact ⟨rfl, Ext.refl _⟩
  have hz0 : ¬ (1048576 : Int) < (xs.length : Int) := by omega
  have hb0 : decide (1048576 < xs.length) = false := by simpa using hX
  have HX := Lib.hid hx; clear hx
  go_enter Try.func8, Try.ntmps8
  go_wp2_with fail
  refine (DrawBoundHigh_any _ _ xs _ HX.out hm0 hl0).mono ?_
  rintro e w1 ⟨a, c, A, mb, d, mk, i, j, rfl, ra, rb, hA4, hM5, hi, hj, e1⟩
  have RA0 := Lib.hid ra; have RB0 := Lib.hid rb
  clear ra rb
  go_wp2_with fail
  refine (BoundHigh_any _ _ _ _ A mk i j _ RA0.out RB0.out (by omega) (by omega)).mono ?_
  rintro e w2 ⟨rfl, e2⟩
  go_wp2_with fail
  refine (sBoundHigh_any _ _ _ _ A mk i j _ (RA0.out.ext e2) (RB0.out.ext e2) (by omega) (by omega) (by omega) (by omega)).mono ?_
  rintro e w3 ⟨rfl, e3⟩
  have E3 := (e1.trans e2).trans e3
  cases o1 : hasC A mk i j
  · have hv := highV_no o1
    rw [hv]
    clear hv o1
    go_wp2_with fail
    go_ret
    exact ⟨rfl, E3⟩
  obtain ⟨k, l, rfl, rfl, hk, hl, hok⟩ := hasC_nat o1
  obtain ⟨n, m, f, b, rfl, rfl, hf⟩ := maskOk_ex hok
  have RA := Lib.hid (RA0.out.ext (e2.trans e3)); have RB := Lib.hid (RB0.out.ext (e2.trans e3))
  have hh := hf.1
  rw [wide_tabOf f (by omega)] at hl
  rw [tabOf_length] at hk
  simp only [tabOf_length]
  rw [highV_tab hf hk hl]
  obtain ⟨hu0, hu1⟩ := hf.high_bd (b := b) hk hl
  obtain ⟨u, hu⟩ : ∃ u, high n m f b k l = u := ⟨_, rfl⟩
  rw [hu] at hu0 hu1 ⊢
  have HU := Lib.hid hu; have HF := Lib.hid hf
  have hkz : (k : Int) < (n : Int) := by omega
  have hlz : (l : Int) < (m : Int) := by omega
  have hbb : (u != u) = false := by simp
  have hbb2 : decide (u < 0) = false := by simpa using hu0
  obtain ⟨⟨hn1, hn4⟩, hm1, hm4⟩ : (1 ≤ n ∧ n ≤ 4) ∧ 1 ≤ m ∧ m ≤ 4 := ⟨⟨hh.1, hh.2.1⟩, hh.2.2⟩
  clear hu hf hh o1 hok RA0 RB0 e1 e2 e3 hA4 hM5 hi hj
  have hturn : high m n (fun i j => f j i) (fun i j => b j i) l k = u := by rw [high_turn HF.out.pos hk hl]; exact HU.out
  have hturnL : low m n (fun i j => f j i) (fun i j => b j i) l k = low n m f b k l := low_turn HF.out.pos hk hl
  obtain ⟨v, hv⟩ : ∃ v, low n m f b k l = v := ⟨_, rfl⟩
  rw [hv] at hturnL
  have HT1 := Lib.hid hturn; have HT2 := Lib.hid hturnL; have HV := Lib.hid hv
  clear hturn hturnL hv
  have huu : (u == u) = true := by simp
  have hvv : (v == v) = true := by simp
  go_wp2_with fail
  refine (TableTurn_tab a c n m f w3 w3 RA.out HF.out (Ext.refl _)).mono ?_
  rintro e w4 ⟨a4, c4, rfl, r4, e4⟩
  have R4 := Lib.hid r4; clear r4
  go_wp2_with fail
  refine (turnMask_tab mb d n m b w4 w4 (RB.out.ext e4) hn1 hn4 hm4 (Ext.refl _)).mono ?_
  rintro e w5 ⟨a5, c5, rfl, r5, e5⟩
  have R5 := Lib.hid r5; clear r5
  go_wp2_with fail
  refine (BoundHigh_tab a4 a5 c4 c5 m n l k _ _ w5 w5 (R4.out.ext e5) R5.out HF.out.turned hl hk (Ext.refl _)).mono ?_
  rintro e w6 ⟨rfl, e6⟩
  rw [HT1.out]
  have x46 := e5.trans e6
  go_wp2_with fail
  refine (turnMask_tab mb d n m b w6 w6 (RB.out.ext (e4.trans x46)) hn1 hn4 hm4 (Ext.refl _)).mono ?_
  rintro e w7 ⟨a7, c7, rfl, r7, e7⟩
  have R7 := Lib.hid r7; clear r7
  go_wp2_with fail
  refine (BoundLow_tab a4 a7 c4 c7 m n l k _ _ w7 w7 (R4.out.ext (x46.trans e7)) R7.out HF.out.turned hl hk (Ext.refl _)).mono ?_
  rintro e w8 ⟨rfl, e8⟩
  rw [HT2.out]
  have x38 := e4.trans ((x46.trans e7).trans e8)
  go_wp2_with fail
  refine (BoundLow_tab a mb c d n m k l _ _ w8 w8 (RA.out.ext x38) (RB.out.ext x38) HF.out hk hl (Ext.refl _)).mono ?_
  rintro e w9 ⟨rfl, e9⟩
  rw [HV.out]
  go_wp2_with fail
  go_ret
  exact ⟨rfl, (E3.trans x38).trans e9⟩
end Go.Proofs.Ytelcdjbbcffliaa
