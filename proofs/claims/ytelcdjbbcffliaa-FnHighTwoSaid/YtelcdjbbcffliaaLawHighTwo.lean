/- The law FnHighTwo. -/
import Derived.Test.YtelcdjbbcffliaaBndLaw
import Derived.Test.YtelcdjbbcffliaaSPath
import Derived.Test.YtelcdjbbcffliaaTabDraw
namespace Go.Proofs.Ytelcdjbbcffliaa
open Go.RowKit Go.DC
theorem sum2_pair {g : Nat → Int} {l l' : Nat} (h : l + l' = 1) : sumN 2 g = g l + g l' := by
  have h2 : (l = 0 ∧ l' = 1) ∨ (l = 1 ∧ l' = 0) := by omega
  rcases h2 with ⟨rfl, rfl⟩ | ⟨rfl, rfl⟩ <;> simp [sumN] <;> omega
theorem two_high {f : Nat → Nat → Int} {k l k' l' : Nat} (h0 : Pos 2 2 f) (hk : k + k' = 1) (hl : l + l' = 1) : high 2 2 f (fun _ _ => true) k l = f k l + min (f k l') (f k' l) ∧ low 2 2 f (fun _ _ => true) k l = f k l - min (f k l) (f k' l') := by
  have h1 := h0 k l (by omega) (by omega)
  have h2 := h0 k' l' (by omega) (by omega)
  have h3 := h0 k l' (by omega) (by omega)
  have h4 := h0 k' l (by omega) (by omega)
  rw [high_all h0 (by omega) (by omega), low_all h0 (by omega) (by omega), sum2_pair (g := f k) hl, sum2_pair (g := fun i => f i l) hk, sum2_pair (g := fun i => sumN 2 (f i)) hk, sum2_pair (g := f k) hl, sum2_pair (g := f k') hl]
  omega
set_option maxRecDepth 10000 in
set_option maxHeartbeats 4000000 in
theorem FnHighTwo_walk (a0 : Option Addr) (c0 : Nat) (xs : List Int) (w : World) (hx : Bytes w a0 xs) (hm0 : xs.length ≤ 9223372036854775807) (hl0 : xs.length ≤ c0) :
    Calls Try.prog 6 #[.slice a0 xs.length c0] w fun e w' => e = .returned (.bool true) ∧ Ext w w' := by
  by_cases hX : 1048576 < xs.length
  · have hz : (1048576 : Int) < (xs.length : Int) := by omega
    go_enter Try.func6, Try.ntmps6
    go_wp2_with fail
    go_ret
    exact ⟨rfl, Ext.refl _⟩
  have hz0 : ¬ (1048576 : Int) < (xs.length : Int) := by omega
  have hb0 : decide (1048576 < xs.length) = false := by simpa using hX
  have HX := Lib.hid hx; clear hx
  go_enter Try.func6, Try.ntmps6
  go_wp2_with fail
  refine (DrawBoundHigh_any _ _ xs _ HX.out hm0 hl0).mono ?_
  rintro e w1 ⟨a, c, A, mb, d, mk, i, j, rfl, ra, rb, hA4, hM5, hi, hj, e1⟩
  have RA0 := Lib.hid ra; have RB0 := Lib.hid rb
  clear ra rb
  go_wp2_with fail
  refine (BoundHigh_any _ _ _ _ A mk i j _ RA0.out RB0.out (by omega) (by omega)).mono ?_
  rintro e w2 ⟨rfl, e2⟩
  go_wp2_with fail
  refine (sBoundHigh_any _ _ _ _ A mk i j _ (RA0.out.ext e2) (RB0.out.ext e2) (by omega) (by omega) (by omega) (by omega)).mono ?_
  rintro e w3 ⟨rfl, e3⟩
  have E3 := (e1.trans e2).trans e3
  cases o1 : hasC A mk i j
  · have hv := highV_no o1
    rw [hv]
    clear hv o1
    go_wp2_with fail
    go_ret
    exact ⟨rfl, E3⟩
  obtain ⟨k, l, rfl, rfl, hk, hl, hok⟩ := hasC_nat o1
  obtain ⟨n, m, f, b, rfl, rfl, hf⟩ := maskOk_ex hok
  have RA := Lib.hid (RA0.out.ext (e2.trans e3)); have RB := Lib.hid (RB0.out.ext (e2.trans e3))
  have hh := hf.1
  rw [wide_tabOf f (by omega)] at hl
  rw [tabOf_length] at hk
  simp only [tabOf_length]
  rw [highV_tab hf hk hl]
  obtain ⟨hu0, hu1⟩ := hf.high_bd (b := b) hk hl
  obtain ⟨u, hu⟩ : ∃ u, high n m f b k l = u := ⟨_, rfl⟩
  rw [hu] at hu0 hu1 ⊢
  have HU := Lib.hid hu; have HF := Lib.hid hf
  have hkz : (k : Int) < (n : Int) := by omega
  have hlz : (l : Int) < (m : Int) := by omega
  have hbb : (u != u) = false := by simp
  have hbb2 : decide (u < 0) = false := by simpa using hu0
  obtain ⟨⟨hn1, hn4⟩, hm1, hm4⟩ : (1 ≤ n ∧ n ≤ 4) ∧ 1 ≤ m ∧ m ≤ 4 := ⟨⟨hh.1, hh.2.1⟩, hh.2.2⟩
  clear hu hf hh o1 hok RA0 RB0 e1 e2 e3 hA4 hM5 hi hj
  have hrow : ∀ i j, i < n → j < m → ∃ tb off tb2 off2 ck, a = some ⟨tb, off, none⟩ ∧ w3.cell? ⟨tb, off + i, none⟩ = some (.slice (some ⟨tb2, off2, none⟩) m ck) ∧ w3.cell? ⟨tb2, off2 + j, none⟩ = some (.int .i64 (f i j)) := fun i j hi hj => by
    obtain ⟨b1, o1, b2, o2, ck, h1, h2, h3⟩ := RA.out.atC 0 (rect_tabOf n m f) hi hj
    rw [get_tabOf f hi hj] at h3
    exact ⟨b1, o1, b2, o2, ck, h1, h2, h3⟩
  have HROW := Lib.hid hrow
  obtain ⟨tb, off, tb0, off0, ck0, rfl, hc0, _⟩ := hrow 0 0 (by omega) (by omega)
  simp only [Nat.add_zero] at hc0
  have h0z : (0 : Int) < (n : Int) := by omega
  have hge := high_ge (b := b) HF.out.pos hk hl
  rw [HU.out] at hge
  obtain ⟨_, _, tb2, off2, ck, ea, ct1, ct2⟩ := hrow k l hk hl
  cases ea
  have hcell := HF.out.2 k l hk hl
  clear hrow
  by_cases h22 : n = 2 ∧ m = 2
  · obtain ⟨rfl, rfl⟩ := h22
    obtain ⟨k', hk'⟩ : ∃ k', k' = 1 - k := ⟨_, rfl⟩
    obtain ⟨l', hl'⟩ : ∃ l', l' = 1 - l := ⟨_, rfl⟩
    obtain ⟨ha, hb⟩ := two_high HF.out.pos (k := k) (l := l) (k' := k') (l' := l') (by omega) (by omega)
    obtain ⟨_, _, tc2, offc2, ckc, ea, cc1, cc2⟩ := HROW.out k l' hk (by omega)
    cases ea
    have e1 := ct1.symm.trans cc1
    cases e1
    obtain ⟨_, _, td2, offd2, ckd, ea, cd1, cd2⟩ := HROW.out k' l (by omega) hl
    cases ea
    obtain ⟨_, _, te2, offe2, cke, ea, ce1, ce2⟩ := HROW.out k' l' (by omega) (by omega)
    cases ea
    have e2 := cd1.symm.trans ce1
    cases e2
    have hx1 := HF.out.2 k l' hk (by omega)
    have hx2 := HF.out.2 k' l (by omega) hl
    have hx3 := HF.out.2 k' l' (by omega) (by omega)
    obtain ⟨x0, h0⟩ : ∃ x, f k l = x := ⟨_, rfl⟩
    obtain ⟨x1, h1⟩ : ∃ x, f k l' = x := ⟨_, rfl⟩
    obtain ⟨x2, h2⟩ : ∃ x, f k' l = x := ⟨_, rfl⟩
    obtain ⟨x3, h3⟩ : ∃ x, f k' l' = x := ⟨_, rfl⟩
    rw [h0] at hcell ct2 hge
    rw [h1] at hx1 cc2
    rw [h2] at hx2 cd2
    rw [h3] at hx3 ce2
    rw [h0, h1, h2] at ha
    rw [h0, h3] at hb
    have hk1 : IntKind.i64.wrap ((1 : Int) - (k : Int)) = (k' : Int) := by rw [show (1 : Int) - (k : Int) = (k' : Int) by omega]; exact IntWalk.i64_in _ (by omega)
    have hl1 : IntKind.i64.wrap ((1 : Int) - (l : Int)) = (l' : Int) := by rw [show (1 : Int) - (l : Int) = (l' : Int) by omega]; exact IntWalk.i64_in _ (by omega)
    have hk2 : (1 : Int) - (k : Int) = (k' : Int) := by omega
    have hl2 : (1 : Int) - (l : Int) = (l' : Int) := by omega
    have hkz' : (k' : Int) < 2 := by omega
    have hlz' : (l' : Int) < 2 := by omega
    have HA := Lib.hid ha; have HB := Lib.hid hb; have HK1 := Lib.hid hk1; have HL1 := Lib.hid hl1; have HK2 := Lib.hid hk2; have HL2 := Lib.hid hl2
    obtain ⟨hcell0, hcell1⟩ := hcell
    obtain ⟨hx10, hx11⟩ := hx1
    obtain ⟨hx20, hx21⟩ := hx2
    obtain ⟨hx30, hx31⟩ := hx3
    clear ha hb hk1 hl1 hk2 hl2 hk' hl' h0 h1 h2 h3 cc1 ce1
    go_wp2_with fail
    refine (allMask_tab _ c 2 2 f true w3 w3 RA.out HF.out (Ext.refl _)).mono ?_
    rintro e w4 ⟨a4, c4, rfl, r4, e4⟩
    have R4 := Lib.hid r4; clear r4
    go_wp2_with fail
    refine (BoundHigh_tab _ a4 c c4 2 2 k l f _ w4 w4 (RA.out.ext e4) R4.out HF.out hk hl (Ext.refl _)).mono ?_
    rintro e w5 ⟨rfl, e5⟩
    rw [HA.out]
    go_wp2_with fail
    refine (BoundLow_tab _ a4 c c4 2 2 k l f _ w5 w5 (RA.out.ext (e4.trans e5)) (R4.out.ext e5) HF.out hk hl (Ext.refl _)).mono ?_
    rintro e w6 ⟨rfl, e6⟩
    rw [HB.out]
    have x36 := (e4.trans e5).trans e6
    have q1 := x36.cell ct1; have q2 := x36.cell ct2; have q3 := x36.cell cc2; have q4 := x36.cell cd1; have q5 := x36.cell cd2; have q6 := x36.cell ce2
    have XX := Lib.hid (E3.trans x36)
    clear ct1 ct2 cc2 cd1 cd2 ce2 hc0 e4 e5 e6 x36 E3 RA RB R4
    have hm1 : (x2 < x1 ∧ min x1 x2 = x2) ∨ (¬ x2 < x1 ∧ min x1 x2 = x1) := by omega
    have hm2 : (x3 < x0 ∧ min x0 x3 = x3) ∨ (¬ x3 < x0 ∧ min x0 x3 = x0) := by omega
    have g1 := HK1.out; have g2 := HL1.out; have g3 := HK2.out; have g4 := HL2.out
    rcases hm1 with ⟨h1, h2⟩ | ⟨h1, h2⟩ <;> rcases hm2 with ⟨h3, h4⟩ | ⟨h3, h4⟩
    all_goals
      rw [h2, h4]
      clear h2 h4
      go_wp2_with fail
      go_quiet (fail)
      go_wp2_with fail
      go_ret
      exact ⟨by simp, XX.out.drewN _⟩
  · have h22b : (n = 2 ∧ ¬ m = 2) ∨ ¬ n = 2 := by omega
    obtain ⟨y, hy⟩ : ∃ y, f k l = y := ⟨_, rfl⟩
    rw [hy] at ct2 hge
    have hgb : decide (y ≤ u) = true := by simpa using hge
    clear hy hcell h22
    rcases h22b with ⟨rfl, h2⟩ | h1
    · have hm2 : ((m : Int) != 2) = true := by rw [bne_iff_ne]; omega
      go_wp2_with fail
      go_ret
      exact ⟨by simp, E3⟩
    · have hn2 : ((n : Int) != 2) = true := by rw [bne_iff_ne]; omega
      go_wp2_with fail
      go_ret
      exact ⟨by simp, E3⟩
end Go.Proofs.Ytelcdjbbcffliaa
