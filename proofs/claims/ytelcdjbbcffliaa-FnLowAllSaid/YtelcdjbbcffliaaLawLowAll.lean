/- The law FnLowAll. -/
import Derived.Test.YtelcdjbbcffliaaBndLaw
import Derived.Test.YtelcdjbbcffliaaSPath
import Derived.Test.YtelcdjbbcffliaaTabDraw
import Derived.Test.YtelcdjbbcffliaaLawHighAll
namespace Go.Proofs.Ytelcdjbbcffliaa
open Go.RowKit Go.DC
set_option maxRecDepth 10000 in
set_option maxHeartbeats 4000000 in
theorem FnLowAll_walk (a0 : Option Addr) (c0 : Nat) (xs : List Int) (w : World) (hx : Bytes w a0 xs) (hm0 : xs.length ≤ 9223372036854775807) (hl0 : xs.length ≤ c0) :
    Calls Try.prog 11 #[.slice a0 xs.length c0] w fun e w' => e = .returned (.bool true) ∧ Ext w w' := by
  by_cases hX : 1048576 < xs.length
  · have hz : (1048576 : Int) < (xs.length : Int) := by omega
    go_enter Try.func11, Try.ntmps11
    go_wp2_with fail
    go_ret
    exact ⟨rfl, Ext.refl _⟩
  have hz0 : ¬ (1048576 : Int) < (xs.length : Int) := by omega
  have hb0 : decide (1048576 < xs.length) = false := by simpa using hX
  have HX := Lib.hid hx; clear hx
  go_enter Try.func11, Try.ntmps11
  go_wp2_with fail
  refine (DrawBoundLow_any _ _ xs _ HX.out hm0 hl0).mono ?_
  rintro e w1 ⟨a, c, A, mb, d, mk, i, j, rfl, ra, rb, hA4, hM5, hi, hj, e1⟩
  have RA0 := Lib.hid ra; have RB0 := Lib.hid rb
  clear ra rb
  go_wp2_with fail
  refine (BoundLow_any _ _ _ _ A mk i j _ RA0.out RB0.out (by omega) (by omega)).mono ?_
  rintro e w2 ⟨rfl, e2⟩
  go_wp2_with fail
  refine (sBoundLow_any _ _ _ _ A mk i j _ (RA0.out.ext e2) (RB0.out.ext e2) (by omega) (by omega) (by omega) (by omega)).mono ?_
  rintro e w3 ⟨rfl, e3⟩
  have E3 := (e1.trans e2).trans e3
  cases o1 : hasC A mk i j
  · have hv := lowV_no o1
    rw [hv]
    clear hv o1
    go_wp2_with fail
    go_ret
    exact ⟨rfl, E3⟩
  obtain ⟨k, l, rfl, rfl, hk, hl, hok⟩ := hasC_nat o1
  obtain ⟨n, m, f, b, rfl, rfl, hf⟩ := maskOk_ex hok
  have RA := Lib.hid (RA0.out.ext (e2.trans e3)); have RB := Lib.hid (RB0.out.ext (e2.trans e3))
  have hh := hf.1
  rw [wide_tabOf f (by omega)] at hl
  rw [tabOf_length] at hk
  simp only [tabOf_length]
  rw [lowV_tab hf hk hl]
  obtain ⟨hu0, hu1⟩ := hf.low_bd (b := b) hk hl
  obtain ⟨u, hu⟩ : ∃ u, low n m f b k l = u := ⟨_, rfl⟩
  rw [hu] at hu0 hu1 ⊢
  have HU := Lib.hid hu; have HF := Lib.hid hf
  have hkz : (k : Int) < (n : Int) := by omega
  have hlz : (l : Int) < (m : Int) := by omega
  have hbb : (u != u) = false := by simp
  have hbb2 : decide (u < 0) = false := by simpa using hu0
  obtain ⟨⟨hn1, hn4⟩, hm1, hm4⟩ : (1 ≤ n ∧ n ≤ 4) ∧ 1 ≤ m ∧ m ≤ 4 := ⟨⟨hh.1, hh.2.1⟩, hh.2.2⟩
  clear hu hf hh o1 hok RA0 RB0 e1 e2 e3 hA4 hM5 hi hj
  have hall := low_all HF.out.pos hk hl
  obtain ⟨hs1, hs2⟩ := HF.out.sums_bd
  have hs1k := hs1 k hk
  have hs2l := hs2 l hl
  have htb := HF.out.total_bd
  obtain ⟨x, hx⟩ : ∃ x, sumN m (f k) = x := ⟨_, rfl⟩
  obtain ⟨y, hy⟩ : ∃ y, sumN n (fun i => f i l) = y := ⟨_, rfl⟩
  obtain ⟨z, hz⟩ : ∃ z, sumN n (fun i => sumN m (f i)) = z := ⟨_, rfl⟩
  rw [hx] at hs1k hall
  rw [hy] at hs2l hall
  rw [hz] at htb hall
  obtain ⟨q, hq⟩ : ∃ q, x + y - z = q := ⟨_, rfl⟩
  have hw1 : IntKind.i64.wrap (x + y) = x + y := IntWalk.i64_in _ (by omega)
  have hw2 : IntKind.i64.wrap (x + y - z) = q := by rw [hq]; exact IntWalk.i64_in _ (by omega)
  rw [hq] at hall
  have HALL := Lib.hid hall; have HXX := Lib.hid hx; have HYY := Lib.hid hy; have HZZ := Lib.hid hz; have HW1 := Lib.hid hw1; have HW2 := Lib.hid hw2
  clear hall hx hy hz hs1 hs2 hw1 hw2
  go_wp2_with fail
  refine (by have := TableSums_any a c (tabOf n m f) w3 RA.out (by rw [tabOf_length]; omega); rwa [tabOf_length] at this : Calls Try.prog 28 #[.slice a n c] w3 (SumsRet (tabOf n m f) w3)).mono ?_
  intro e w4 hret
  obtain ⟨r, s, cr, cs, rfl, e4, c1, c2⟩ := sums_in HF.out hret
  have cr1 := c1 k hk
  have cs1 := c2 l hl
  rw [HXX.out] at cr1
  rw [HYY.out] at cs1
  have E4 := Lib.hid (E3.trans e4)
  have RA4 := Lib.hid (RA.out.ext e4)
  have CALL1 : Hid (∀ wx : World, Ext w4 wx → Calls Try.prog 27 #[.slice a n c, .bool true] wx (NewMask n m (fun _ _ => true) w4)) := fun wx ex => allMask_tab a c n m f true w4 wx (RA4.out.ext ex) HF.out ex
  have CALL2 : Hid (∀ (wx : World) am cm, Ext w4 wx → BRows wx am (tabOf n m fun _ _ => true) → Calls Try.prog 18 #[.slice a n c, .slice am n cm, .int .i64 k, .int .i64 l] wx (AddOut (max 0 q) w4)) := fun wx am cm ex hm => by
    have := BoundLow_tab a am c cm n m k l f (fun _ _ => true) w4 wx (RA4.out.ext ex) hm HF.out hk hl ex
    rwa [HALL.out] at this
  have CALL3 : Hid (∀ wx : World, Ext w4 wx → Calls Try.prog 37 #[.slice a n c] wx (AddOut z w4)) := fun wx ex => by
    have := TableTotal_tab a c n m f w4 wx (RA4.out.ext ex) HF.out ex
    rwa [HZZ.out] at this
  have ex0 : Ext w4 w4 := Ext.refl w4
  have ex1 : Ext w4 w4.drew := (Ext.refl w4).drew
  clear hret c1 c2 e4 E3 RA RB
  have hm : (0 < q ∧ max 0 q = q) ∨ (¬ 0 < q ∧ max 0 q = 0) := by omega
  rcases hm with ⟨h1, h2⟩ | ⟨h1, h2⟩
  all_goals
    rw [h2] at CALL2
    clear h2
    go_wp2_with fail
    have hw1 := HW1.out
    have hw2 := HW2.out
    clear hq
    go_region_held3 (fun w' => Ext w4 w' ∧ w'.cell? ⟨r, k, none⟩ = some (.int .i64 x) ∧ w'.cell? ⟨s, l, none⟩ = some (.int .i64 y))
      ((refine ⟨?_, ?_, ?_⟩; (first | assumption | exact Ext.drew (by assumption) | exact Ext.refl _); (first | exact Ext.cell (by assumption) cr1 | exact cr1); (first | exact Ext.cell (by assumption) cs1 | exact cs1)))
      (first
        | ((go_at_call 27; refine (CALL1.out _ ?_).mono ?_; (first | assumption | exact Ext.drew (by assumption) | exact Ext.refl _); rintro e w5 ⟨am, cm, rfl, rm, e5⟩))
        | ((go_at_call 18; refine (CALL2.out _ _ _ ?_ ?_).mono ?_; (first | assumption | exact Ext.drew (by assumption) | exact Ext.refl _); (first | assumption | exact TRows.ext rm (by assumption)); rintro e w6 ⟨rfl, e6⟩))
        | ((go_at_call 37; refine (CALL3.out _ ?_).mono ?_; (first | assumption | exact Ext.drew (by assumption) | exact Ext.refl _); rintro e w7 ⟨rfl, e7⟩)))
    all_goals
      clear hw1 hw2
      go_wp2_with fail
      go_ret
      exact ⟨by simp, E4.out.trans (by assumption)⟩
end Go.Proofs.Ytelcdjbbcffliaa
