/- The law FnPatternNeed. -/
import Derived.Test.YtjkkedoncdeofaaPatDraw
import Derived.Test.YtjkkedoncdeofaaManyLaw
namespace Go.Proofs.Ytjkkedoncdeofaa
open Go.RowKit Go.DC
set_option maxRecDepth 10000 in
set_option maxHeartbeats 4000000 in
theorem FnPatternNeed_walk (a0 : Option Addr) (c0 : Nat) (xs : List Int) (w : World) (hx : Bytes w a0 xs) (hm0 : xs.length ≤ 9223372036854775807) (hl0 : xs.length ≤ c0) :
    Calls Try.prog 5 #[.slice a0 xs.length c0] w fun e w' => e = .returned (.bool true) ∧ Ext w w' := by
  by_cases hX : 1048576 < xs.length
  · have hz : (1048576 : Int) < (xs.length : Int) := by omega
    go_enter Try.func5, Try.ntmps5
    go_wp2_with fail
    go_ret
    exact ⟨rfl, Ext.refl _⟩
  have hz0 : ¬ (1048576 : Int) < (xs.length : Int) := by omega
  have hb0 : decide (1048576 < xs.length) = false := by simpa using hX
  have HX := Lib.hid hx; clear hx
  go_enter Try.func5, Try.ntmps5
  go_wp2_with fail
  refine (DrawPatternNeed_any _ _ xs _ HX.out hm0 hl0).mono ?_
  rintro e w1 ⟨a, c, A, b0, cf, fm, mb, d, mk, s, rfl, ra, rf, rb, hA4, hF5, hM5, hsr, e1⟩
  have RA0 := Lib.hid ra; have RF0 := Lib.hid rf; have RB0 := Lib.hid rb
  clear ra rf rb
  go_wp2_with fail
  refine (PatternNeed_any _ _ _ _ _ _ A fm mk s _ RA0.out RF0.out RB0.out (by omega) (by omega) (by omega) (by omega)).mono ?_
  rintro e w2 ⟨rfl, e2⟩
  go_wp2_with fail
  refine (sPatternNeed_any _ _ _ _ _ _ A fm mk s _ (RA0.out.ext e2) (RF0.out.ext e2) (RB0.out.ext e2) (by omega) (by omega) (by omega) (by omega)).mono ?_
  rintro e w3 ⟨rfl, e3⟩
  have E3 := (e1.trans e2).trans e3
  cases hno : needOk A fm mk s
  · rw [needV_no hno]
    clear hno
    go_wp2_with fail
    go_ret
    exact ⟨rfl, E3⟩
  obtain ⟨h1, h2, o3⟩ := needOk_iff.1 hno
  obtain ⟨n, m, f, g, rfl, rfl, hf⟩ := maskOk_ex h1
  have hh := hf.1
  obtain ⟨b, rfl⟩ : ∃ b, mk = tabOf n m b := by
    have := (maskOk_rect h2).2
    rw [tabOf_length, wide_tabOf f (by omega)] at this
    exact ⟨_, this.eq false⟩
  have RA := Lib.hid (RA0.out.ext (e2.trans e3)); have RF := Lib.hid (RF0.out.ext (e2.trans e3)); have RB := Lib.hid (RB0.out.ext (e2.trans e3))
  simp only [tabOf_length]
  obtain ⟨⟨hn1, hn4⟩, hm1, hm4⟩ : (1 ≤ n ∧ n ≤ 4) ∧ 1 ≤ m ∧ m ≤ 4 := ⟨⟨hh.1, hh.2.1⟩, hh.2.2⟩
  rw [needV_tab hf o3]
  obtain ⟨hu0, hu1⟩ := manyN_bd (notSafe g (fun i j => safeF n m f b i j s)) hn4 hm4
  obtain ⟨u, hu⟩ : ∃ u, manyN n m (notSafe g (fun i j => safeF n m f b i j s)) = u := ⟨_, rfl⟩
  rw [hu] at hu0 hu1 ⊢
  have HU : Hid (manyN n m (notSafeF n m f g b s) = u) := hu
  have hbb : (u != u) = false := by simp
  have hbb2 : decide (u < 0) = false := by simpa using hu0
  clear hu
  have HF := Lib.hid hf; have O3 := Lib.hid o3
  obtain ⟨hs0, hs1⟩ := inCell_iff.1 o3
  clear hf hh hno h1 h2 o3 RA0 RF0 RB0 e1 e2 e3 hA4 hF5 hM5 hsr
  obtain ⟨tb, tf, a1, ck1, ea, ct0⟩ := RA.out.rowC (rect_tabOf n m f) (i := 0) (by omega)
  subst ea
  clear ct0
  obtain ⟨p, hp⟩ : ∃ p : Nat → Nat → Bool, ∀ i j, p i j = safeF n m f b i j s := ⟨_, fun _ _ => rfl⟩
  obtain ⟨q, hq⟩ : ∃ q : Nat → Nat → Bool, ∀ i j, q i j = (g i j && !p i j) := ⟨_, fun _ _ => rfl⟩
  have hqu : manyN n m q = u := by
    rw [← HU.out]
    exact manyN_congr fun i j _ _ => by rw [hq, hp]; rfl
  have hle : u ≤ manyN n m g := by
    rw [← hqu]
    refine manyN_le fun i j _ _ e => ?_
    rw [hq] at e
    simp only [Bool.and_eq_true] at e
    exact e.1
  obtain ⟨v, hv⟩ : ∃ v, manyN n m g = v := ⟨_, rfl⟩
  rw [hv] at hle
  have HV := Lib.hid hv
  have hleb : decide (u ≤ v) = true := by simpa using hle
  have HSAFE : Hid (∀ (k l : Nat) (wx : World), Ext w3 wx → k < n → l < m → Calls Try.prog 20 #[.slice (some ⟨tb, tf, none⟩) n c, .slice mb n d, .int .i64 k, .int .i64 l, .int .i64 s] wx (BoolOut (p k l) wx)) := fun k l wx ex hk hl => by
    rw [hp]
    exact PatternSafe_tab (some ⟨tb, tf, none⟩) mb c d n m k l s f b wx wx (RA.out.ext ex) (RB.out.ext ex) HF.out hk hl O3.out (Ext.refl _)
  have HFLAG : Hid (∀ (k l : Nat) (wx : World), Ext w3 wx → k < n → l < m → ∃ nb mf mb2 mf2 mk2, b0 = some ⟨nb, mf, none⟩ ∧ wx.cell? ⟨nb, mf + k, none⟩ = some (.slice (some ⟨mb2, mf2, none⟩) m mk2) ∧ wx.cell? ⟨mb2, mf2 + l, none⟩ = some (.bool (g k l))) := fun k l wx ex hk hl => by
    obtain ⟨nb, mf, mb2, mf2, mk2, e, c1, c2⟩ := (RF.out.ext ex).atC false (rect_tabOf n m g) (i := k) (j := l) hk hl
    rw [get_tabOf g hk hl] at c2
    exact ⟨nb, mf, mb2, mf2, mk2, e, c1, c2⟩
  have HTAB : Hid (∀ (k : Nat) (wx : World), Ext w3 wx → k < n → ∃ a2 ck2, wx.cell? ⟨tb, tf + k, none⟩ = some (.slice a2 m ck2)) := fun k wx ex hk => by
    obtain ⟨_, _, a2, ck2, ea, c2⟩ := (RA.out.ext ex).rowC (rect_tabOf n m f) hk
    cases ea
    exact ⟨a2, ck2, c2⟩
  have HQU := Lib.hid hqu; have HQ := Lib.hid hq
  clear hp hv hq hqu
  go_wp2_with fail
  go_loopg [9, 10] n (fun g' z i wr => ∃ k : Nat, k ≤ n ∧ g' = n - k ∧ i = .int .i64 k ∧ z = .int .i64 (sumN k (fun i => sumN m (one q i))) ∧ Ext w3 wr)
  case atStart => exact ⟨0, Nat.zero_le _, rfl, rfl, rfl, Ext.refl _⟩
  case round =>
    obtain ⟨k, hk, rfl, rfl, rfl, hext⟩ := hrel
    by_cases hlt : k < n
    · have hz : (k : Int) < (n : Int) := by omega
      have hub : 0 ≤ sumN k (fun i => sumN m (one q i)) ∧ sumN k (fun i => sumN m (one q i)) ≤ 16 := manyN_bd q (h := k) (m := m) (by omega) hm4
      have hsn : sumN (k + 1) (fun i => sumN m (one q i)) = sumN k (fun i => sumN m (one q i)) + sumN m (one q k) := rfl
      obtain ⟨z, hzz⟩ : ∃ z, sumN k (fun i => sumN m (one q i)) = z := ⟨_, rfl⟩
      rw [hzz] at hub hsn ⊢
      have HSN := Lib.hid hsn
      obtain ⟨hub0, hub1⟩ := hub
      clear hzz hsn
      go_wp2_with fail
      go_loopg [9, 11] m (fun g' y i wi => ∃ l : Nat, l ≤ m ∧ g' = m - l ∧ i = .int .i64 l ∧ y = .int .i64 (z + sumN l (one q k)) ∧ Ext w3 wi)
      case atStart => exact ⟨0, Nat.zero_le _, rfl, rfl, by simp [sumN], hext⟩
      case round =>
        clear hext
        obtain ⟨l, hl, rfl, rfl, rfl, hext⟩ := hrel
        obtain ⟨a2, ck2, c2⟩ := HTAB.out k _ hext hlt
        by_cases hlt2 : l < m
        · have hlz : (l : Int) < (m : Int) := by omega
          have hvb : 0 ≤ sumN l (one q k) ∧ sumN l (one q k) ≤ 4 := by
            refine ⟨sumN_nonneg fun j _ => (one_bd q k j).1, ?_⟩
            have e : sumN l (one q k) ≤ sumN l (fun _ => 1) := sumN_le fun j _ => (one_bd q k j).2
            rw [sumN_const] at e; omega
          have hsl : sumN (l + 1) (one q k) = sumN l (one q k) + one q k l := rfl
          obtain ⟨r, hr⟩ : ∃ r, sumN l (one q k) = r := ⟨_, rfl⟩
          rw [hr] at hvb hsl ⊢
          obtain ⟨hvb0, hvb1⟩ := hvb
          clear hr
          obtain ⟨nb, mf, mb2, mf2, mk2, rfl, cm1, cm2⟩ := HFLAG.out k l _ hext hlt hlt2
          have hqkl := HQ.out k l
          cases hg : g k l with
          | false =>
            rw [hg] at cm2 hqkl
            have h1' : one q k l = 0 := by unfold one; rw [hqkl]; rfl
            rw [h1', Int.add_zero] at hsl
            have HSL := Lib.hid hsl
            clear hg hsl h1' hqkl
            go_wp2_with fail
            go_roundg (m - (l + 1))
            case measure => omega
            case rel => exact ⟨l + 1, by omega, rfl, by go_num, by rw [HSL.out], hext⟩
          | true =>
            rw [hg] at cm2 hqkl
            cases hp : p k l with
            | true =>
              rw [hp] at hqkl
              have h1' : one q k l = 0 := by unfold one; rw [hqkl]; rfl
              rw [h1', Int.add_zero] at hsl
              have HSL := Lib.hid hsl; have HP := Lib.hid hp
              clear hg hsl h1' hqkl hp
              go_wp2_with fail
              refine (HSAFE.out k l _ hext hlt hlt2).mono ?_
              rintro e w4 ⟨rfl, e4⟩
              rw [HP.out]
              go_wp2_with fail
              go_roundg (m - (l + 1))
              case measure => omega
              case rel => exact ⟨l + 1, by omega, rfl, by go_num, by rw [HSL.out], hext.trans e4⟩
            | false =>
              rw [hp] at hqkl
              have h1' : one q k l = 1 := by unfold one; rw [hqkl]; rfl
              rw [h1'] at hsl
              have HSL := Lib.hid hsl; have HP := Lib.hid hp
              clear hg hsl h1' hqkl hp
              go_wp2_with fail
              refine (HSAFE.out k l _ hext hlt hlt2).mono ?_
              rintro e w4 ⟨rfl, e4⟩
              rw [HP.out]
              go_wp2_with fail
              go_roundg (m - (l + 1))
              case measure => omega
              case rel => exact ⟨l + 1, by omega, rfl, by go_num, by rw [HSL.out, Int.add_assoc], hext.trans e4⟩
        · have hlz : ¬ (l : Int) < (m : Int) := by omega
          obtain rfl : l = m := by omega
          go_wp2_with fail
          go_roundg (n - (k + 1))
          case measure => omega
          case rel => exact ⟨k + 1, by omega, rfl, by go_num, by rw [HSN.out], hext⟩
    · have hz : ¬ (k : Int) < (n : Int) := by omega
      obtain rfl : k = n := by omega
      have hsu : sumN k (fun i => sumN m (one q i)) = u := HQU.out
      rw [hsu]
      have huu : (u == u) = true := by simp
      clear hsu
      go_wp2_with fail
      by_cases h99 : s = 99
      · subst h99
        have h := PatternNeed_any (some ⟨tb, tf, none⟩) b0 mb c cf d (tabOf k m f) (tabOf k m g) (tabOf k m b) 100 wr (RA.out.ext hext) (RF.out.ext hext) (RB.out.ext hext) (by rw [tabOf_length]; omega) (by rw [tabOf_length]; omega) (by rw [tabOf_length]; omega) (by omega)
        rw [needV_no (by unfold needOk inCell; simp), tabOf_length, tabOf_length, tabOf_length] at h
        refine h.mono ?_
        clear h
        rintro e w4 ⟨rfl, e4⟩
        have hm1u : ¬ u ≤ -1 := by omega
        have hm1b : decide (u ≤ -1) = false := by simpa using hm1u
        go_wp2_with fail
        refine (MaskMany_tab b0 cf k m g w4 (RF.out.ext (hext.trans e4)) hn4 hm4).mono ?_
        rintro e w5 ⟨rfl, rfl⟩
        rw [HV.out]
        go_wp2_with fail
        go_ret
        exact ⟨rfl, (E3.trans hext).trans e4⟩
      · obtain ⟨x, hx⟩ : ∃ x, manyN k m (notSafe g fun i j => safeF k m f b i j (s + 1)) = x := ⟨_, rfl⟩
        have hux : u ≤ x := by
          rw [← hx, ← HU.out]
          refine manyN_le fun i j hi hj e => ?_
          unfold notSafeF at e
          unfold notSafe
          simp only [Bool.and_eq_true, Bool.not_eq_true'] at e ⊢
          refine ⟨e.1, ?_⟩
          cases hs : safeF k m f b i j (s + 1) with
          | false => rfl
          | true => rw [safeF_less hs (by omega)] at e; cases e.2
        have hxb0 : 0 ≤ x ∧ x ≤ 16 := by rw [← hx]; exact manyN_bd _ hn4 hm4
        obtain ⟨hxb0, hxb1⟩ := hxb0
        have HX2 := Lib.hid hx
        have huxb : decide (u ≤ x) = true := by simpa using hux
        clear hx
        refine (PatternNeed_tab _ b0 mb c cf d k m (s + 1) f g b wr wr (RA.out.ext hext) (RF.out.ext hext) (RB.out.ext hext) HF.out (inCell_iff.2 (by omega)) (Ext.refl _)).mono ?_
        rintro e w4 ⟨rfl, e4⟩
        rw [HX2.out]
        go_wp2_with fail
        refine (MaskMany_tab b0 cf k m g w4 (RF.out.ext (hext.trans e4)) hn4 hm4).mono ?_
        rintro e w5 ⟨rfl, rfl⟩
        rw [HV.out]
        go_wp2_with fail
        go_ret
        exact ⟨rfl, (E3.trans hext).trans e4⟩
end Go.Proofs.Ytjkkedoncdeofaa
