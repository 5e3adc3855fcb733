/- The law FnPatternOkSmall. -/
import Derived.Test.YtjkkedoncdeofaaPatDraw
import Derived.Test.YtjkkedoncdeofaaManyLaw
namespace Go.Proofs.Ytjkkedoncdeofaa
open Go.RowKit Go.DC
theorem sumN_two {n k j : Nat} {f : Nat → Int} (hk : k < n) (hj : j < n) (e : j ≠ k) (h : ∀ l, l < n → 0 ≤ f l) (hfk : 1 ≤ f k) (hfj : 1 ≤ f j) : 2 ≤ sumN n f := by
  have h1 := sumN_off f hk
  have h2 := le_sumN (f := fun l => if l = k then 0 else f l) hj (fun l hl _ => by split; exact Int.le_refl _; exact h l hl)
  simp only [if_neg e] at h2
  omega
/-- A safe cell is not alone in its row. -/
theorem safe_row {n m : Nat} {f : Nat → Nat → Int} {b : Nat → Nat → Bool} {k l : Nat} {s : Int} (h0 : Pos n m f) (hk : k < n) (hl : l < m) (h : safeF n m f b k l s = true) (hs : 0 < s) : 2 ≤ sumN m (one b k) := by
  obtain ⟨hb, h1, h2⟩ := safeF_iff.1 h
  have hx : ∃ j, j < m ∧ j ≠ l ∧ b k j = true := by
    refine Classical.byContradiction fun hn => ?_
    have := high_alone_row (b := b) h0 hk hl (fun j hj hne => by
      cases hbj : b k j with
      | false => rfl
      | true => exact absurd ⟨j, hj, hne, hbj⟩ hn)
    omega
  obtain ⟨j, hj, hne, hbj⟩ := hx
  exact sumN_two hl hj hne (fun i _ => (one_bd b k i).1) (by unfold one; rw [hb]; decide) (by unfold one; rw [hbj]; decide)
set_option maxRecDepth 10000 in
set_option maxHeartbeats 4000000 in
theorem FnPatternOkSmall_walk (a0 : Option Addr) (c0 : Nat) (xs : List Int) (w : World) (hx : Bytes w a0 xs) (hm0 : xs.length ≤ 9223372036854775807) (hl0 : xs.length ≤ c0) :
    Calls Try.prog 3 #[.slice a0 xs.length c0] w fun e w' => e = .returned (.bool true) ∧ Ext w w' := by
  by_cases hX : 1048576 < xs.length
  · have hz : (1048576 : Int) < (xs.length : Int) := by omega
    go_enter Try.func3, Try.ntmps3
    go_wp2_with fail
    go_ret
    exact ⟨rfl, Ext.refl _⟩
  have hz0 : ¬ (1048576 : Int) < (xs.length : Int) := by omega
  have hb0 : decide (1048576 < xs.length) = false := by simpa using hX
  have HX := Lib.hid hx; clear hx
  go_enter Try.func3, Try.ntmps3
  go_wp2_with fail
  refine (DrawPatternOk_any _ _ xs _ HX.out hm0 hl0).mono ?_
  rintro e w1 ⟨a, c, A, b0, cf, fm, mb, d, mk, s, rfl, ra, rf, rb, hA4, hF5, hM5, hsr, e1⟩
  have RA0 := Lib.hid ra; have RF0 := Lib.hid rf; have RB0 := Lib.hid rb
  clear ra rf rb
  go_wp2_with fail
  refine (PatternOk_any _ _ _ _ _ _ A fm mk s _ RA0.out RF0.out RB0.out (by omega) (by omega) (by omega) (by omega)).mono ?_
  rintro e w2 ⟨rfl, e2⟩
  go_wp2_with fail
  refine (sPatternOk_any _ _ _ _ _ _ A fm mk s _ (RA0.out.ext e2) (RF0.out.ext e2) (RB0.out.ext e2) (by omega) (by omega) (by omega) (by omega)).mono ?_
  rintro e w3 ⟨rfl, e3⟩
  have E3 := (e1.trans e2).trans e3
  cases hok : decide (needV A fm mk s = 0)
  · clear hok
    go_wp2_with fail
    go_ret
    exact ⟨rfl, E3⟩
  have hzero := of_decide_eq_true hok
  have hno : needOk A fm mk s = true := by
    cases h : needOk A fm mk s with
    | true => rfl
    | false => rw [needV_no h] at hzero; cases hzero
  obtain ⟨h1, h2, o3⟩ := needOk_iff.1 hno
  obtain ⟨n, m, f, g, rfl, rfl, hf⟩ := maskOk_ex h1
  have hh := hf.1
  obtain ⟨b, rfl⟩ : ∃ b, mk = tabOf n m b := by
    have := (maskOk_rect h2).2
    rw [tabOf_length, wide_tabOf f (by omega)] at this
    exact ⟨_, this.eq false⟩
  have RA := Lib.hid (RA0.out.ext (e2.trans e3)); have RF := Lib.hid (RF0.out.ext (e2.trans e3)); have RB := Lib.hid (RB0.out.ext (e2.trans e3))
  simp only [tabOf_length]
  obtain ⟨⟨hn1, hn4⟩, hm1, hm4⟩ : (1 ≤ n ∧ n ≤ 4) ∧ 1 ≤ m ∧ m ≤ 4 := ⟨⟨hh.1, hh.2.1⟩, hh.2.2⟩
  rw [needV_tab hf o3] at hzero
  have HU : Hid (manyN n m (notSafeF n m f g b s) = 0) := hzero
  clear hzero hok
  have HF := Lib.hid hf; have O3 := Lib.hid o3
  obtain ⟨hs0, hs1⟩ := inCell_iff.1 o3
  clear hf hh hno h1 h2 o3 RA0 RF0 RB0 e1 e2 e3 hA4 hF5 hM5 hsr
  have hfact : ∀ k l, k < n → l < m → g k l = true → s ≠ 0 → 2 ≤ sumN m (one b k) ∧ low n m f b k l ≤ max 0 (f k l - s) := fun k l hk hl hg hs => by
    have h1 := manyN_none HU.out k l hk hl
    unfold notSafeF at h1
    rw [hg, Bool.true_and, Bool.not_eq_false'] at h1
    exact ⟨safe_row HF.out.pos hk hl h1 (by omega), (safeF_iff.1 h1).2.2⟩
  have HFACT := Lib.hid hfact
  clear hfact HU
  obtain ⟨tb, tf, a1, ck1, ea, ct0⟩ := RA.out.rowC (rect_tabOf n m f) (i := 0) (by omega)
  subst ea
  clear ct0
  obtain ⟨nb, mf, _, _, _, eb, cb0, _⟩ := RF.out.atC false (rect_tabOf n m g) (i := 0) (j := 0) (by omega) (by omega)
  subst eb
  clear cb0
  obtain ⟨xb, xf, _, _, _, ex, cb0, _⟩ := RB.out.atC false (rect_tabOf n m b) (i := 0) (j := 0) (by omega) (by omega)
  subst ex
  clear cb0
  have HFLAG : Hid (∀ (k l : Nat) (wx : World), Ext w3 wx → k < n → l < m → ∃ mb2 mf2 mk2, wx.cell? ⟨nb, mf + k, none⟩ = some (.slice (some ⟨mb2, mf2, none⟩) m mk2) ∧ wx.cell? ⟨mb2, mf2 + l, none⟩ = some (.bool (g k l))) := fun k l wx ex hk hl => by
    obtain ⟨_, _, mb2, mf2, mk2, e, c1, c2⟩ := (RF.out.ext ex).atC false (rect_tabOf n m g) (i := k) (j := l) hk hl
    rw [get_tabOf g hk hl] at c2
    cases e
    exact ⟨mb2, mf2, mk2, c1, c2⟩
  have HMASK : Hid (∀ (k l : Nat) (wx : World), Ext w3 wx → k < n → l < m → ∃ mb2 mf2 mk2, wx.cell? ⟨xb, xf + k, none⟩ = some (.slice (some ⟨mb2, mf2, none⟩) m mk2) ∧ wx.cell? ⟨mb2, mf2 + l, none⟩ = some (.bool (b k l))) := fun k l wx ex hk hl => by
    obtain ⟨_, _, mb2, mf2, mk2, e, c1, c2⟩ := (RB.out.ext ex).atC false (rect_tabOf n m b) (i := k) (j := l) hk hl
    rw [get_tabOf b hk hl] at c2
    cases e
    exact ⟨mb2, mf2, mk2, c1, c2⟩
  have HTAB : Hid (∀ (k : Nat) (wx : World), Ext w3 wx → k < n → ∃ a2 ck2, wx.cell? ⟨tb, tf + k, none⟩ = some (.slice a2 m ck2)) := fun k wx ex hk => by
    obtain ⟨_, _, a2, ck2, ea, c2⟩ := (RA.out.ext ex).rowC (rect_tabOf n m f) hk
    cases ea
    exact ⟨a2, ck2, c2⟩
  have HCELL : Hid (∀ (k l : Nat) (wx : World), Ext w3 wx → k < n → l < m → ∃ tb2 tf2 tk2, wx.cell? ⟨tb, tf + k, none⟩ = some (.slice (some ⟨tb2, tf2, none⟩) m tk2) ∧ wx.cell? ⟨tb2, tf2 + l, none⟩ = some (.int .i64 (f k l))) := fun k l wx ex hk hl => by
    obtain ⟨_, _, mb2, mf2, mk2, e, c1, c2⟩ := (RA.out.ext ex).atC 0 (rect_tabOf n m f) (i := k) (j := l) hk hl
    rw [get_tabOf f hk hl] at c2
    cases e
    exact ⟨mb2, mf2, mk2, c1, c2⟩
  have HLOW : Hid (∀ (k l : Nat) (w0 wx : World), Ext w3 w0 → Ext w0 wx → k < n → l < m → Calls Try.prog 15 #[.slice (some ⟨tb, tf, none⟩) n c, .slice (some ⟨xb, xf, none⟩) n d, .int .i64 k, .int .i64 l] wx (AddOut (low n m f b k l) w0)) := fun k l w0 wx e0 ex hk hl =>
    BoundLow_tab _ _ c d n m k l f b w0 wx (RA.out.ext (e0.trans ex)) (RB.out.ext (e0.trans ex)) HF.out hk hl ex
  have HLB : Hid (∀ k l, k < n → l < m → 0 ≤ f k l ∧ f k l ≤ 99 ∧ 0 ≤ low n m f b k l ∧ low n m f b k l ≤ f k l) := fun k l hk hl => ⟨(HF.out.2 k l hk hl).1, (HF.out.2 k l hk hl).2, low_pos HF.out.pos hk hl, low_le HF.out.pos hk hl⟩
  go_wp2_with fail
  go_loopg [9] n (fun g' i wr => ∃ k : Nat, k ≤ n ∧ g' = n - k ∧ i = .int .i64 k ∧ Ext w3 wr)
  case atStart => exact ⟨0, Nat.zero_le _, rfl, rfl, Ext.refl _⟩
  case round =>
    obtain ⟨k, hk, rfl, rfl, hext⟩ := hrel
    by_cases hlt : k < n
    · have hz : (k : Int) < (n : Int) := by omega
      go_wp2_with fail
      go_loopg [10] m (fun g' i wi => ∃ l : Nat, l ≤ m ∧ g' = m - l ∧ i = .int .i64 l ∧ Ext w3 wi)
      case atStart => exact ⟨0, Nat.zero_le _, rfl, rfl, hext⟩
      case round =>
        clear hext
        obtain ⟨l, hl, rfl, rfl, hext⟩ := hrel
        obtain ⟨a2, ck2, c2⟩ := HTAB.out k _ hext hlt
        by_cases hlt2 : l < m
        · have hlz : (l : Int) < (m : Int) := by omega
          obtain ⟨mb2, mf2, mk2, cm1, cm2⟩ := HFLAG.out k l _ hext hlt hlt2
          cases hg : g k l with
          | false =>
            rw [hg] at cm2
            clear hg
            go_wp2_with fail
            go_roundg (m - (l + 1))
            case measure => omega
            case rel => exact ⟨l + 1, by omega, rfl, by go_num, hext⟩
          | true =>
            rw [hg] at cm2
            by_cases hs00 : s = 0
            · subst hs00
              clear hg
              go_wp2_with fail
              go_roundg (m - (l + 1))
              case measure => omega
              case rel => exact ⟨l + 1, by omega, rfl, by go_num, hext⟩
            have hs0b : (s == 0) = false := by rw [beq_eq_false_iff_ne]; exact hs00
            obtain ⟨hrow, hlow⟩ := HFACT.out k l hlt hlt2 hg hs00
            obtain ⟨hy0, hy1, hv0, hv1⟩ := HLB.out k l hlt hlt2
            obtain ⟨z, hzz⟩ : ∃ z, sumN m (one b k) = z := ⟨_, rfl⟩
            obtain ⟨v, hv⟩ : ∃ v, low n m f b k l = v := ⟨_, rfl⟩
            obtain ⟨y, hy⟩ : ∃ y, f k l = y := ⟨_, rfl⟩
            rw [hzz] at hrow
            rw [hv] at hlow hv0 hv1
            rw [hy] at hlow hy0 hy1 hv1
            have HZZ := Lib.hid hzz; have HV := Lib.hid hv; have HY := Lib.hid hy; have HLOWV := Lib.hid hlow
            clear hg hzz hv hy hlow
            go_wp2_with fail
            go_loopg [11, 12] m (fun g' x i wi2 => ∃ j : Nat, j ≤ m ∧ g' = m - j ∧ i = .int .i64 j ∧ x = .int .i64 (sumN j (one b k)) ∧ Ext w3 wi2)
            case atStart => exact ⟨0, Nat.zero_le _, rfl, rfl, rfl, hext⟩
            case round =>
              clear hext c2 cm1 cm2
              obtain ⟨j, hj, rfl, rfl, rfl, hext⟩ := hrel
              obtain ⟨a2, ck2, c2⟩ := HTAB.out k _ hext hlt
              by_cases hlt3 : j < m
              · have hjz : (j : Int) < (m : Int) := by omega
                have hvb : 0 ≤ sumN j (one b k) ∧ sumN j (one b k) ≤ 4 := by
                  refine ⟨sumN_nonneg fun i _ => (one_bd b k i).1, ?_⟩
                  have e : sumN j (one b k) ≤ sumN j (fun _ => 1) := sumN_le fun i _ => (one_bd b k i).2
                  rw [sumN_const] at e; omega
                have hsl : sumN (j + 1) (one b k) = sumN j (one b k) + one b k j := rfl
                obtain ⟨r, hr⟩ : ∃ r, sumN j (one b k) = r := ⟨_, rfl⟩
                rw [hr] at hvb hsl ⊢
                obtain ⟨hvb0, hvb1⟩ := hvb
                clear hr
                obtain ⟨mb3, mf3, mk3, cx1, cx2⟩ := HMASK.out k j _ hext hlt hlt3
                cases hb : b k j with
                | false =>
                  rw [hb] at cx2
                  have h1' : one b k j = 0 := by unfold one; rw [hb]; rfl
                  rw [h1', Int.add_zero] at hsl
                  have HSL := Lib.hid hsl
                  clear hb hsl h1'
                  go_wp2_with fail
                  go_roundg (m - (j + 1))
                  case measure => omega
                  case rel => exact ⟨j + 1, by omega, rfl, by go_num, by rw [HSL.out], hext⟩
                | true =>
                  rw [hb] at cx2
                  have h1' : one b k j = 1 := by unfold one; rw [hb]; rfl
                  rw [h1'] at hsl
                  have HSL := Lib.hid hsl
                  clear hb hsl h1'
                  go_wp2_with fail
                  go_roundg (m - (j + 1))
                  case measure => omega
                  case rel => exact ⟨j + 1, by omega, rfl, by go_num, by rw [HSL.out], hext⟩
              · have hjz : ¬ (j : Int) < (m : Int) := by omega
                obtain rfl : j = m := by omega
                rw [HZZ.out]
                have hz2 : ¬ z < 2 := by omega
                have hz2b : decide (z < 2) = false := by simpa using hz2
                obtain ⟨q, hq⟩ : ∃ q, y - s = q := ⟨_, rfl⟩
                have hw2 : IntKind.i64.wrap (y - s) = q := by rw [hq]; exact IntWalk.i64_in _ (by omega)
                obtain ⟨tb2, tf2, tk2, cy1, cy2⟩ := HCELL.out k l _ hext hlt hlt2
                rw [HY.out] at cy2
                have CL : Hid (∀ wx : World, Ext wr wx → Calls Try.prog 15 #[.slice (some ⟨tb, tf, none⟩) n c, .slice (some ⟨xb, xf, none⟩) n d, .int .i64 k, .int .i64 l] wx (AddOut v wr)) := fun wx ex => by
                  have := HLOW.out k l wr wx hext ex hlt hlt2
                  rwa [HV.out] at this
                have ex0 : Ext wr wr := Ext.refl wr
                have ex1 : Ext wr wr.drew := (Ext.refl wr).drew
                have hlowv := HLOWV.out
                rw [hq] at hlowv
                have hmx : (0 < q ∧ ¬ q < v) ∨ (¬ 0 < q ∧ ¬ 0 < v) := by omega
                clear c2 hlowv
                rcases hmx with ⟨g1, g2⟩ | ⟨g1, g2⟩
                all_goals
                  clear hq
                  go_wp2_with fail
                  go_region_held3 (fun w' => Ext wr w' ∧ w'.cell? ⟨tb, tf + k, none⟩ = some (.slice (some ⟨tb2, tf2, none⟩) j tk2) ∧ w'.cell? ⟨tb2, tf2 + l, none⟩ = some (.int .i64 y))
                    ((refine ⟨?_, ?_, ?_⟩; (first | assumption | exact Ext.drew (by assumption) | exact Ext.refl _); (first | exact Ext.cell (by assumption) cy1 | exact cy1); (first | exact Ext.cell (by assumption) cy2 | exact cy2)))
                    ((go_at_call 15; refine (CL.out _ ?_).mono ?_; (first | assumption | exact Ext.drew (by assumption) | exact Ext.refl _); rintro e w9 ⟨rfl, e9⟩))
                  all_goals
                    go_wp2_with fail
                    go_roundg (j - (l + 1))
                    case measure => omega
                    case rel => exact ⟨l + 1, by omega, rfl, by go_num, hext.trans (by assumption)⟩
        · have hlz : ¬ (l : Int) < (m : Int) := by omega
          go_wp2_with fail
          go_roundg (n - (k + 1))
          case measure => omega
          case rel => exact ⟨k + 1, by omega, rfl, by go_num, hext⟩
    · have hz : ¬ (k : Int) < (n : Int) := by omega
      go_wp2_with fail
      go_ret
      exact ⟨rfl, E3.trans hext⟩
end Go.Proofs.Ytjkkedoncdeofaa
