/- The law FnPatternNeedNone. -/
import Derived.Test.YtjkkedoncdeofaaPatDraw
import Derived.Test.YtjkkedoncdeofaaManyLaw
namespace Go.Proofs.Ytjkkedoncdeofaa
open Go.RowKit Go.DC
set_option maxRecDepth 10000 in
set_option maxHeartbeats 4000000 in
theorem FnPatternNeedNone_walk (a0 : Option Addr) (c0 : Nat) (xs : List Int) (w : World) (hx : Bytes w a0 xs) (hm0 : xs.length ≤ 9223372036854775807) (hl0 : xs.length ≤ c0) :
    Calls Try.prog 7 #[.slice a0 xs.length c0] w fun e w' => e = .returned (.bool true) ∧ Ext w w' := by
  by_cases hX : 1048576 < xs.length
  · have hz : (1048576 : Int) < (xs.length : Int) := by omega
    go_enter Try.func7, Try.ntmps7
    go_wp2_with fail
    go_ret
    exact ⟨rfl, Ext.refl _⟩
  have hz0 : ¬ (1048576 : Int) < (xs.length : Int) := by omega
  have hb0 : decide (1048576 < xs.length) = false := by simpa using hX
  have HX := Lib.hid hx; clear hx
  go_enter Try.func7, Try.ntmps7
  go_wp2_with fail
  refine (DrawPatternNeed_any _ _ xs _ HX.out hm0 hl0).mono ?_
  rintro e w1 ⟨a, c, A, b0, cf, fm, mb, d, mk, s, rfl, ra, rf, rb, hA4, hF5, hM5, hsr, e1⟩
  have RA0 := Lib.hid ra; have RF0 := Lib.hid rf; have RB0 := Lib.hid rb
  clear ra rf rb
  go_wp2_with fail
  refine (PatternNeed_any _ _ _ _ _ _ A fm mk s _ RA0.out RF0.out RB0.out (by omega) (by omega) (by omega) (by omega)).mono ?_
  rintro e w2 ⟨rfl, e2⟩
  go_wp2_with fail
  refine (sPatternNeed_any _ _ _ _ _ _ A fm mk s _ (RA0.out.ext e2) (RF0.out.ext e2) (RB0.out.ext e2) (by omega) (by omega) (by omega) (by omega)).mono ?_
  rintro e w3 ⟨rfl, e3⟩
  have E3 := (e1.trans e2).trans e3
  cases hno : needOk A fm mk s
  · rw [needV_no hno]
    clear hno
    go_wp2_with fail
    go_ret
    exact ⟨rfl, E3⟩
  obtain ⟨h1, h2, o3⟩ := needOk_iff.1 hno
  obtain ⟨n, m, f, g, rfl, rfl, hf⟩ := maskOk_ex h1
  have hh := hf.1
  obtain ⟨b, rfl⟩ : ∃ b, mk = tabOf n m b := by
    have := (maskOk_rect h2).2
    rw [tabOf_length, wide_tabOf f (by omega)] at this
    exact ⟨_, this.eq false⟩
  have RA := Lib.hid (RA0.out.ext (e2.trans e3)); have RF := Lib.hid (RF0.out.ext (e2.trans e3)); have RB := Lib.hid (RB0.out.ext (e2.trans e3))
  simp only [tabOf_length]
  obtain ⟨⟨hn1, hn4⟩, hm1, hm4⟩ : (1 ≤ n ∧ n ≤ 4) ∧ 1 ≤ m ∧ m ≤ 4 := ⟨⟨hh.1, hh.2.1⟩, hh.2.2⟩
  rw [needV_tab hf o3]
  obtain ⟨hu0, hu1⟩ := manyN_bd (notSafe g (fun i j => safeF n m f b i j s)) hn4 hm4
  obtain ⟨u, hu⟩ : ∃ u, manyN n m (notSafe g (fun i j => safeF n m f b i j s)) = u := ⟨_, rfl⟩
  rw [hu] at hu0 hu1 ⊢
  have HU : Hid (manyN n m (notSafeF n m f g b s) = u) := hu
  have hbb : (u != u) = false := by simp
  have hbb2 : decide (u < 0) = false := by simpa using hu0
  clear hu
  have HF := Lib.hid hf; have O3 := Lib.hid o3
  obtain ⟨hs0, hs1⟩ := inCell_iff.1 o3
  clear hf hh hno h1 h2 o3 RA0 RF0 RB0 e1 e2 e3 hA4 hF5 hM5 hsr
  have hz1 : manyN n m (notSafeF n m f (fun _ _ => false) b s) = 0 := manyN_zero fun i j _ _ => rfl
  have hz2 : manyN n m (notSafeF n m f g (fun _ _ => false) s) = manyN n m g := manyN_congr fun i j _ _ => by
    unfold notSafeF safeF; simp
  obtain ⟨v, hv⟩ : ∃ v, manyN n m g = v := ⟨_, rfl⟩
  rw [hv] at hz2
  have HZ1 := Lib.hid hz1; have HZ2 := Lib.hid hz2; have HV := Lib.hid hv
  have hvv : (v == v) = true := by simp
  have hub : decide (0 ≤ u) = true := by simpa using hu0
  clear hz1 hz2 hv
  go_wp2_with fail
  refine (allMask_tab a c n m f false w3 w3 RA.out HF.out (Ext.refl _)).mono ?_
  rintro e w4 ⟨a4, c4, rfl, r4, e4⟩
  have R4 := Lib.hid r4; clear r4
  go_wp2_with fail
  refine (PatternNeed_tab a a4 mb c c4 d n m s f (fun _ _ => false) b w4 w4 (RA.out.ext e4) R4.out (RB.out.ext e4) HF.out O3.out (Ext.refl _)).mono ?_
  rintro e w5 ⟨rfl, e5⟩
  change Hid (manyN n m (notSafe (fun _ _ => false) fun i j => safeF n m f b i j s) = 0) at HZ1
  rw [HZ1.out]
  go_wp2_with fail
  refine (PatternNeed_tab a b0 a4 c cf c4 n m s f g (fun _ _ => false) w5 w5 (RA.out.ext (e4.trans e5)) (RF.out.ext (e4.trans e5)) (R4.out.ext e5) HF.out O3.out (Ext.refl _)).mono ?_
  rintro e w6 ⟨rfl, e6⟩
  change Hid (manyN n m (notSafe g fun i j => safeF n m f (fun _ _ => false) i j s) = v) at HZ2
  rw [HZ2.out]
  go_wp2_with fail
  refine (MaskMany_tab b0 cf n m g w6 (RF.out.ext ((e4.trans e5).trans e6)) hn4 hm4).mono ?_
  rintro e w7 ⟨rfl, rfl⟩
  rw [HV.out]
  go_wp2_with fail
  go_ret
  exact ⟨by simp, (E3.trans (e4.trans e5)).trans e6⟩
end Go.Proofs.Ytjkkedoncdeofaa
