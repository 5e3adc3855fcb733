/- The law FnHighAll. -/
import Derived.Test.YtelcdjbbcffliaaBndLaw
import Derived.Test.YtelcdjbbcffliaaSPath
import Derived.Test.YtelcdjbbcffliaaTabDraw
namespace Go.Proofs.Ytelcdjbbcffliaa
open Go.RowKit Go.DC
/-- A table's sums and total stand in memory. -/
theorem sums_in {n m : Nat} {f : Nat → Nat → Int} {w : World} {e : Ending} {w' : World} (hf : InT n m f) (h : SumsRet (tabOf n m f) w e w') :
    ∃ r s cr cs, e = .returned (.tuple #[.slice (some ⟨r, 0, none⟩) n cr, .slice (some ⟨s, 0, none⟩) m cs, .bool true]) ∧ Ext w w' ∧ (∀ i, i < n → w'.cell? ⟨r, i, none⟩ = some (.int .i64 (sumN m (f i)))) ∧ (∀ j, j < m → w'.cell? ⟨s, j, none⟩ = some (.int .i64 (sumN n (fun i => f i j)))) := by
  obtain ⟨v1, v2, rfl, ex, h2⟩ := h
  have hok := tabOk_tabOf.2 hf
  have hw : wide (tabOf n m f) = m := wide_tabOf f (by have := hf.1; omega)
  rw [if_pos hok, hw, tabOf_length] at h2
  obtain ⟨o1, o2⟩ := h2
  obtain ⟨a1, c1, rfl, _, x1⟩ := owns_cells o1
  obtain ⟨a2, c2, rfl, _, x2⟩ := owns_cells o2
  have hh := hf.1
  obtain ⟨r, rfl, _, _, _⟩ := x1 0 _ (rowOf_at _ (by omega))
  obtain ⟨s, rfl, _, _, _⟩ := x2 0 _ (rowOf_at _ (by omega))
  refine ⟨r, s, c1, c2, by rw [hok], ex, fun i hi => ?_, fun j hj => ?_⟩
  · obtain ⟨g, hg, _, hc, _⟩ := x1 i _ (rowOf_at _ hi)
    cases hg
    rw [hc]; unfold encI
    rw [sumN_congr (fun j hj => get_tabOf f hi hj)]
  · obtain ⟨g, hg, _, hc, _⟩ := x2 j _ (rowOf_at _ hj)
    cases hg
    rw [hc]; unfold encI
    rw [sumN_congr (fun i hi => get_tabOf f hi hj)]
theorem InT.sums_bd {n m : Nat} {f : Nat → Nat → Int} (hf : InT n m f) : (∀ i, i < n → 0 ≤ sumN m (f i) ∧ sumN m (f i) ≤ 396) ∧ (∀ j, j < m → 0 ≤ sumN n (fun i => f i j) ∧ sumN n (fun i => f i j) ≤ 396) := by
  have hh := hf.1
  refine ⟨fun i hi => ⟨sumN_nonneg fun j hj => (hf.2 i j hi hj).1, ?_⟩, fun j hj => ⟨sumN_nonneg fun i hi => (hf.2 i j hi hj).1, ?_⟩⟩
  · have e : sumN m (f i) ≤ sumN m (fun _ => 99) := sumN_le fun l hl => (hf.2 i l hi hl).2
    rw [sumN_const] at e; omega
  · have e : sumN n (fun i => f i j) ≤ sumN n (fun _ => 99) := sumN_le fun l hl => (hf.2 l j hl hj).2
    rw [sumN_const] at e; omega
set_option maxRecDepth 10000 in
set_option maxHeartbeats 4000000 in
theorem FnHighAll_walk (a0 : Option Addr) (c0 : Nat) (xs : List Int) (w : World) (hx : Bytes w a0 xs) (hm0 : xs.length ≤ 9223372036854775807) (hl0 : xs.length ≤ c0) :
    Calls Try.prog 7 #[.slice a0 xs.length c0] w fun e w' => e = .returned (.bool true) ∧ Ext w w' := by
  by_cases hX : 1048576 < xs.length
  · have hz : (1048576 : Int) < (xs.length : Int) := by omega
    go_enter Try.func7, Try.ntmps7
    go_wp2_with fail
    go_ret
    exact ⟨rfl, Ext.refl _⟩
  have hz0 : ¬ (1048576 : Int) < (xs.length : Int) := by omega
  have hb0 : decide (1048576 < xs.length) = false := by simpa using hX
  have HX := Lib.hid hx; clear hx
  go_enter Try.func7, Try.ntmps7
  go_wp2_with fail
  refine (DrawBoundHigh_any _ _ xs _ HX.out hm0 hl0).mono ?_
  rintro e w1 ⟨a, c, A, mb, d, mk, i, j, rfl, ra, rb, hA4, hM5, hi, hj, e1⟩
  have RA0 := Lib.hid ra; have RB0 := Lib.hid rb
  clear ra rb
  go_wp2_with fail
  refine (BoundHigh_any _ _ _ _ A mk i j _ RA0.out RB0.out (by omega) (by omega)).mono ?_
  rintro e w2 ⟨rfl, e2⟩
  go_wp2_with fail
  refine (sBoundHigh_any _ _ _ _ A mk i j _ (RA0.out.ext e2) (RB0.out.ext e2) (by omega) (by omega) (by omega) (by omega)).mono ?_
  rintro e w3 ⟨rfl, e3⟩
  have E3 := (e1.trans e2).trans e3
  cases o1 : hasC A mk i j
  · have hv := highV_no o1
    rw [hv]
    clear hv o1
    go_wp2_with fail
    go_ret
    exact ⟨rfl, E3⟩
  obtain ⟨k, l, rfl, rfl, hk, hl, hok⟩ := hasC_nat o1
  obtain ⟨n, m, f, b, rfl, rfl, hf⟩ := maskOk_ex hok
  have RA := Lib.hid (RA0.out.ext (e2.trans e3)); have RB := Lib.hid (RB0.out.ext (e2.trans e3))
  have hh := hf.1
  rw [wide_tabOf f (by omega)] at hl
  rw [tabOf_length] at hk
  simp only [tabOf_length]
  rw [highV_tab hf hk hl]
  obtain ⟨hu0, hu1⟩ := hf.high_bd (b := b) hk hl
  obtain ⟨u, hu⟩ : ∃ u, high n m f b k l = u := ⟨_, rfl⟩
  rw [hu] at hu0 hu1 ⊢
  have HU := Lib.hid hu; have HF := Lib.hid hf
  have hkz : (k : Int) < (n : Int) := by omega
  have hlz : (l : Int) < (m : Int) := by omega
  have hbb : (u != u) = false := by simp
  have hbb2 : decide (u < 0) = false := by simpa using hu0
  obtain ⟨⟨hn1, hn4⟩, hm1, hm4⟩ : (1 ≤ n ∧ n ≤ 4) ∧ 1 ≤ m ∧ m ≤ 4 := ⟨⟨hh.1, hh.2.1⟩, hh.2.2⟩
  clear hu hf hh o1 hok RA0 RB0 e1 e2 e3 hA4 hM5 hi hj
  have hall := high_all HF.out.pos hk hl
  obtain ⟨hs1, hs2⟩ := HF.out.sums_bd
  have hs1k := hs1 k hk
  have hs2l := hs2 l hl
  obtain ⟨x, hx⟩ : ∃ x, sumN m (f k) = x := ⟨_, rfl⟩
  obtain ⟨y, hy⟩ : ∃ y, sumN n (fun i => f i l) = y := ⟨_, rfl⟩
  rw [hx] at hs1k hall
  rw [hy] at hs2l hall
  have HALL := Lib.hid hall; have HXX := Lib.hid hx; have HYY := Lib.hid hy
  clear hall hx hy hs1 hs2
  go_wp2_with fail
  refine (by have := TableSums_any a c (tabOf n m f) w3 RA.out (by rw [tabOf_length]; omega); rwa [tabOf_length] at this : Calls Try.prog 28 #[.slice a n c] w3 (SumsRet (tabOf n m f) w3)).mono ?_
  intro e w4 hret
  obtain ⟨r, s, cr, cs, rfl, e4, c1, c2⟩ := sums_in HF.out hret
  have cr1 := c1 k hk
  have cs1 := c2 l hl
  rw [HXX.out] at cr1
  rw [HYY.out] at cs1
  have E4 := Lib.hid (E3.trans e4)
  have RA4 := Lib.hid (RA.out.ext e4)
  have CALL1 : Hid (∀ wx : World, Ext w4 wx → Calls Try.prog 27 #[.slice a n c, .bool true] wx (NewMask n m (fun _ _ => true) w4)) := fun wx ex => allMask_tab a c n m f true w4 wx (RA4.out.ext ex) HF.out ex
  have CALL2 : Hid (∀ (wx : World) am cm, Ext w4 wx → BRows wx am (tabOf n m fun _ _ => true) → Calls Try.prog 16 #[.slice a n c, .slice am n cm, .int .i64 k, .int .i64 l] wx (AddOut (min x y) w4)) := fun wx am cm ex hm => by
    have := BoundHigh_tab a am c cm n m k l f (fun _ _ => true) w4 wx (RA4.out.ext ex) hm HF.out hk hl ex
    rwa [HALL.out] at this
  have ex0 : Ext w4 w4 := Ext.refl w4
  have ex1 : Ext w4 w4.drew := (Ext.refl w4).drew
  clear hret c1 c2 e4 E3 RA RB
  have hxy : (x < y ∧ ¬ y < x ∧ min x y = x) ∨ (y < x ∧ ¬ x < y ∧ min x y = y) ∨ (x = y ∧ min x y = x) := by omega
  rcases hxy with ⟨h1, h2, h3⟩ | ⟨h1, h2, h3⟩ | ⟨h1, h3⟩
  case inr.inr =>
    rw [h3] at CALL2
    clear h3
    subst h1
    go_wp2_with fail
    go_region_held3 (fun w' => Ext w4 w' ∧ w'.cell? ⟨r, k, none⟩ = some (.int .i64 x) ∧ w'.cell? ⟨s, l, none⟩ = some (.int .i64 x))
      ((refine ⟨?_, ?_, ?_⟩; (first | assumption | exact Ext.drew (by assumption) | exact Ext.refl _); (first | exact Ext.cell (by assumption) cr1 | exact cr1); (first | exact Ext.cell (by assumption) cs1 | exact cs1)))
      (first
        | ((go_at_call 27; refine (CALL1.out _ ?_).mono ?_; (first | assumption | exact Ext.drew (by assumption) | exact Ext.refl _); rintro e w5 ⟨am, cm, rfl, rm, e5⟩))
        | ((go_at_call 16; refine (CALL2.out _ _ _ ?_ ?_).mono ?_; assumption; assumption; rintro e w6 ⟨rfl, e6⟩)))
    all_goals
      go_wp2_with fail
      go_ret
      exact ⟨by simp, E4.out.trans (by assumption)⟩
  all_goals
    rw [h3] at CALL2
    clear h3
    go_wp2_with fail
    go_region_held3 (fun w' => Ext w4 w' ∧ w'.cell? ⟨r, k, none⟩ = some (.int .i64 x) ∧ w'.cell? ⟨s, l, none⟩ = some (.int .i64 y))
      ((refine ⟨?_, ?_, ?_⟩; (first | assumption | exact Ext.drew (by assumption) | exact Ext.refl _); (first | exact Ext.cell (by assumption) cr1 | exact cr1); (first | exact Ext.cell (by assumption) cs1 | exact cs1)))
      (first
        | ((go_at_call 27; refine (CALL1.out _ ?_).mono ?_; (first | assumption | exact Ext.drew (by assumption) | exact Ext.refl _); rintro e w5 ⟨am, cm, rfl, rm, e5⟩))
        | ((go_at_call 16; refine (CALL2.out _ _ _ ?_ ?_).mono ?_; assumption; assumption; rintro e w6 ⟨rfl, e6⟩)))
    all_goals
      go_wp2_with fail
      go_ret
      exact ⟨by simp, E4.out.trans (by assumption)⟩
end Go.Proofs.Ytelcdjbbcffliaa
