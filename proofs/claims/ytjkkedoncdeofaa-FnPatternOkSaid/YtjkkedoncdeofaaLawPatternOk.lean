/- The law FnPatternOk. -/
import Derived.Test.YtjkkedoncdeofaaPatDraw
import Derived.Test.YtjkkedoncdeofaaManyLaw
namespace Go.Proofs.Ytjkkedoncdeofaa
open Go.RowKit Go.DC
set_option maxRecDepth 10000 in
set_option maxHeartbeats 4000000 in
theorem FnPatternOk_walk (a0 : Option Addr) (c0 : Nat) (xs : List Int) (a0b : Option Addr) (c0b : Nat) (ys : List Int) (w : World) (hx : Bytes w a0 xs) (hm0 : xs.length ≤ 9223372036854775807) (hl0 : xs.length ≤ c0) (_hy : Bytes w a0b ys) (hm0b : ys.length ≤ 9223372036854775807) (_hl0b : ys.length ≤ c0b) :
    Calls Try.prog 6 #[.slice a0 xs.length c0, .slice a0b ys.length c0b] w fun e w' => e = .returned (.bool true) ∧ Ext w w' := by
  by_cases hX : 1048576 < xs.length
  · have hz : (1048576 : Int) < (xs.length : Int) := by omega
    go_enter Try.func6, Try.ntmps6
    go_wp2_with fail
    go_ret
    exact ⟨rfl, Ext.refl _⟩
  have hz0 : ¬ (1048576 : Int) < (xs.length : Int) := by omega
  have hb0 : decide (1048576 < xs.length) = false := by simpa using hX
  by_cases hY : 1048576 < ys.length
  · have hzy : (1048576 : Int) < (ys.length : Int) := by omega
    go_enter Try.func6, Try.ntmps6
    go_wp2_with fail
    go_ret
    exact ⟨rfl, Ext.refl _⟩
  have hzy0 : ¬ (1048576 : Int) < (ys.length : Int) := by omega
  have hby0 : decide (1048576 < ys.length) = false := by simpa using hY
  have HX := Lib.hid hx; clear hx
  go_enter Try.func6, Try.ntmps6
  go_wp2_with fail
  refine (DrawPatternOk_any _ _ xs _ HX.out hm0 hl0).mono ?_
  rintro e w1 ⟨a, c, A, b0, cf, fm, mb, d, mk, s, rfl, ra, rf, rb, hA4, hF5, hM5, hsr, e1⟩
  have RA0 := Lib.hid ra; have RF0 := Lib.hid rf; have RB0 := Lib.hid rb
  clear ra rf rb
  go_wp2_with fail
  refine (PatternOk_any _ _ _ _ _ _ A fm mk s _ RA0.out RF0.out RB0.out (by omega) (by omega) (by omega) (by omega)).mono ?_
  rintro e w2 ⟨rfl, e2⟩
  go_wp2_with fail
  refine (sPatternOk_any _ _ _ _ _ _ A fm mk s _ (RA0.out.ext e2) (RF0.out.ext e2) (RB0.out.ext e2) (by omega) (by omega) (by omega) (by omega)).mono ?_
  rintro e w3 ⟨rfl, e3⟩
  have E3 := (e1.trans e2).trans e3
  cases hok : decide (needV A fm mk s = 0)
  · clear hok
    go_wp2_with fail
    go_ret
    exact ⟨rfl, E3⟩
  have hzero := of_decide_eq_true hok
  have hno : needOk A fm mk s = true := by
    cases h : needOk A fm mk s with
    | true => rfl
    | false => rw [needV_no h] at hzero; cases hzero
  obtain ⟨h1, h2, o3⟩ := needOk_iff.1 hno
  obtain ⟨n, m, f, g, rfl, rfl, hf⟩ := maskOk_ex h1
  have hh := hf.1
  obtain ⟨b, rfl⟩ : ∃ b, mk = tabOf n m b := by
    have := (maskOk_rect h2).2
    rw [tabOf_length, wide_tabOf f (by omega)] at this
    exact ⟨_, this.eq false⟩
  have RA := Lib.hid (RA0.out.ext (e2.trans e3)); have RF := Lib.hid (RF0.out.ext (e2.trans e3)); have RB := Lib.hid (RB0.out.ext (e2.trans e3))
  simp only [tabOf_length]
  obtain ⟨⟨hn1, hn4⟩, hm1, hm4⟩ : (1 ≤ n ∧ n ≤ 4) ∧ 1 ≤ m ∧ m ≤ 4 := ⟨⟨hh.1, hh.2.1⟩, hh.2.2⟩
  rw [needV_tab hf o3] at hzero
  have HU : Hid (manyN n m (notSafeF n m f g b s) = 0) := hzero
  clear hzero hok
  have HF := Lib.hid hf; have O3 := Lib.hid o3
  obtain ⟨hs0, hs1⟩ := inCell_iff.1 o3
  clear hf hh hno h1 h2 o3 RA0 RF0 RB0 e1 e2 e3 hA4 hF5 hM5 hsr
  obtain ⟨p, hp⟩ : ∃ p, ys.length % n = p := ⟨_, rfl⟩
  obtain ⟨r, hr⟩ : ∃ r, ys.length / n % m = r := ⟨_, rfl⟩
  have hpn : p < n := by rw [← hp]; exact Nat.mod_lt _ (by omega)
  have hrm : r < m := by rw [← hr]; exact Nat.mod_lt _ (by omega)
  have hpz : (ys.length : Int) % (n : Int) = (p : Int) := by rw [← hp]; exact (Int.natCast_emod _ _).symm
  have hqz : (ys.length : Int) / (n : Int) = ((ys.length / n : Nat) : Int) := (Int.natCast_ediv _ _).symm
  obtain ⟨qn, hqn⟩ : ∃ qn, ys.length / n = qn := ⟨_, rfl⟩
  rw [hqn] at hqz hr
  have hrz : (qn : Int) % (m : Int) = (r : Int) := by rw [← hr]; exact (Int.natCast_emod _ _).symm
  have hqb : qn ≤ 1048576 := by rw [← hqn]; exact Nat.le_trans (Nat.div_le_self _ _) (by omega)
  have HPZ := Lib.hid hpz; have HQZ := Lib.hid hqz; have HRZ := Lib.hid hrz
  obtain ⟨tb, tf, a1, ck1, ea, ct0⟩ := RA.out.rowC (rect_tabOf n m f) (i := 0) (by omega)
  subst ea
  simp only [Nat.add_zero] at ct0
  have h0z : (0 : Int) < (n : Int) := by omega
  have h0m : (0 : Int) < (m : Int) := by omega
  have hpzn : (p : Int) < (n : Int) := by omega
  have hrzm : (r : Int) < (m : Int) := by omega
  clear hp hr hqn hpz hqz hrz
  have hmore : manyN n m (notSafeF n m f g (upd b p r true) s) = 0 := manyN_zero fun i j hi hj => by
    have h1 := manyN_none HU.out i j hi hj
    unfold notSafeF at *
    cases hg : g i j with
    | false => rfl
    | true =>
      rw [hg, Bool.true_and, Bool.not_eq_false'] at h1
      rw [Bool.true_and, safeF_more HF.out.pos hi hj h1 (fun k l _ _ e => by unfold upd; split <;> simp [e])]; rfl
  have HMO : Hid (manyN n m (notSafe g fun i j => safeF n m f (upd b p r true) i j s) = 0) := hmore
  have HUU : Hid (manyN n m (notSafe g fun i j => safeF n m f b i j s) = 0) := HU.out
  have HSAFE : Hid (∀ (k l : Nat) (wx : World), Ext w3 wx → k < n → l < m → g k l = true → Calls Try.prog 20 #[.slice (some ⟨tb, tf, none⟩) n c, .slice mb n d, .int .i64 k, .int .i64 l, .int .i64 s] wx (BoolOut true wx)) := fun k l wx ex hk hl hg => by
    have h1 := manyN_none HU.out k l hk hl
    unfold notSafeF at h1
    rw [hg, Bool.true_and, Bool.not_eq_false'] at h1
    have := PatternSafe_tab (some ⟨tb, tf, none⟩) mb c d n m k l s f b wx wx (RA.out.ext ex) (RB.out.ext ex) HF.out hk hl O3.out (Ext.refl _)
    rwa [h1] at this
  have HFLAG : Hid (∀ (k l : Nat) (wx : World), Ext w3 wx → k < n → l < m → ∃ nb mf mb2 mf2 mk2, b0 = some ⟨nb, mf, none⟩ ∧ wx.cell? ⟨nb, mf + k, none⟩ = some (.slice (some ⟨mb2, mf2, none⟩) m mk2) ∧ wx.cell? ⟨mb2, mf2 + l, none⟩ = some (.bool (g k l))) := fun k l wx ex hk hl => by
    obtain ⟨nb, mf, mb2, mf2, mk2, e, c1, c2⟩ := (RF.out.ext ex).atC false (rect_tabOf n m g) (i := k) (j := l) hk hl
    rw [get_tabOf g hk hl] at c2
    exact ⟨nb, mf, mb2, mf2, mk2, e, c1, c2⟩
  have HTAB : Hid (∀ (k : Nat) (wx : World), Ext w3 wx → k < n → ∃ a2 ck2, wx.cell? ⟨tb, tf + k, none⟩ = some (.slice a2 m ck2)) := fun k wx ex hk => by
    obtain ⟨_, _, a2, ck2, ea, c2⟩ := (RA.out.ext ex).rowC (rect_tabOf n m f) hk
    cases ea
    exact ⟨a2, ck2, c2⟩
  clear hmore
  go_wp2_with fail
  go_loopg [11] n (fun g' i wr => ∃ k : Nat, k ≤ n ∧ g' = n - k ∧ i = .int .i64 k ∧ Ext w3 wr)
  case atStart => exact ⟨0, Nat.zero_le _, rfl, rfl, Ext.refl _⟩
  case round =>
    obtain ⟨k, hk, rfl, rfl, hext⟩ := hrel
    by_cases hlt : k < n
    · have hz : (k : Int) < (n : Int) := by omega
      go_wp2_with fail
      go_loopg [12] m (fun g' i wi => ∃ l : Nat, l ≤ m ∧ g' = m - l ∧ i = .int .i64 l ∧ Ext w3 wi)
      case atStart => exact ⟨0, Nat.zero_le _, rfl, rfl, hext⟩
      case round =>
        clear hext
        obtain ⟨l, hl, rfl, rfl, hext⟩ := hrel
        obtain ⟨a2, ck2, c2⟩ := HTAB.out k _ hext hlt
        by_cases hlt2 : l < m
        · have hlz : (l : Int) < (m : Int) := by omega
          obtain ⟨nb, mf, mb2, mf2, mk2, rfl, cm1, cm2⟩ := HFLAG.out k l _ hext hlt hlt2
          cases hg : g k l with
          | false =>
            rw [hg] at cm2
            clear hg
            go_wp2_with fail
            go_roundg (m - (l + 1))
            case measure => omega
            case rel => exact ⟨l + 1, by omega, rfl, by go_num, hext⟩
          | true =>
            rw [hg] at cm2
            have HG := Lib.hid hg
            clear hg
            go_wp2_with fail
            refine (HSAFE.out k l _ hext hlt hlt2 HG.out).mono ?_
            rintro e w4 ⟨rfl, e4⟩
            go_wp2_with fail
            go_roundg (m - (l + 1))
            case measure => omega
            case rel => exact ⟨l + 1, by omega, rfl, by go_num, hext.trans e4⟩
        · have hlz : ¬ (l : Int) < (m : Int) := by omega
          go_wp2_with fail
          go_roundg (n - (k + 1))
          case measure => omega
          case rel => exact ⟨k + 1, by omega, rfl, by go_num, hext⟩
    · have hz : ¬ (k : Int) < (n : Int) := by omega
      clear hk
      go_wp2_with fail
      refine (copyMask_tab mb d n m b wr (RB.out.ext hext) hn1 hn4 hm1 hm4).mono ?_
      rintro e w5 ⟨o5, co5, vs5, rfl, own, e5⟩
      obtain ⟨_, _, g5, ck5, ev, _, c15, hg5, _, hvs, cg5, fg5, _⟩ := own.atC (i := p) (j := r) hpn hrm
      cases ev
      have hset := own.setC (j := r) hpn hvs true
      unfold encB at cg5 hset
      have e5' : Ext wr (w5.setCell ⟨g5, r, none⟩ (.bool true)).drew := (e5.setCell (p := ⟨g5, r, none⟩) hg5 _).drew
      have rows := own_read_n (hset.ext ((Ext.refl _).drew))
      have RX := Lib.hid rows; have E5 := Lib.hid (hext.trans e5')
      have ct0' := (hext.trans e5).cell ct0
      clear hset own rows e5' e5 ct0 hvs
      have hpz := HPZ.out; have hqz := HQZ.out; have hrz := HRZ.out
      have tpz : (ys.length : Int).tmod (n : Int) = (p : Int) := by rw [Int.tmod_eq_emod_of_nonneg (by omega)]; exact hpz
      have tqz : (ys.length : Int).tdiv (n : Int) = (qn : Int) := by rw [Int.tdiv_eq_ediv_of_nonneg (by omega)]; exact hqz
      have trz : (qn : Int).tmod (m : Int) = (r : Int) := by rw [Int.tmod_eq_emod_of_nonneg (by omega)]; exact hrz
      have hn0 : ¬ (n : Int) = 0 := by omega
      have hmm0 : ¬ (m : Int) = 0 := by omega
      have hn0b : ((n : Int) == 0) = false := by rw [beq_eq_false_iff_ne]; omega
      have hmm0b : ((m : Int) == 0) = false := by rw [beq_eq_false_iff_ne]; omega
      have hn0n : ¬ n = 0 := by omega
      have hm0n : ¬ m = 0 := by omega
      have h0n : 0 < n := by omega
      have wpz : IntKind.i64.wrap (p : Int) = (p : Int) := IntWalk.i64_in _ (by omega)
      have wrz : IntKind.i64.wrap (r : Int) = (r : Int) := IntWalk.i64_in _ (by omega)
      have wqz : IntKind.i64.wrap (qn : Int) = (qn : Int) := IntWalk.i64_in _ (by omega)
      go_wp2_with fail
      go_still_tail 18, (by kernel_rfl)
      go_wp2_with fail
      clear hpz hqz hrz tpz tqz trz wqz wpz wrz hn0 hmm0 hn0b hmm0b hn0n hm0n h0n
      refine (PatternNeed_tab _ b0 mb c cf d n m s f g b _ _ (RA.out.ext E5.out) (RF.out.ext E5.out) (RB.out.ext E5.out) HF.out O3.out (Ext.refl _)).mono ?_
      rintro e w6 ⟨rfl, e6⟩
      rw [HUU.out]
      go_wp2_with fail
      refine (PatternOk_tab _ b0 _ c cf co5 n m s f g _ w6 w6 (RA.out.ext (E5.out.trans e6)) (RF.out.ext (E5.out.trans e6)) (RX.out.ext e6) HF.out O3.out (Ext.refl _)).mono ?_
      rintro e w7 ⟨rfl, e7⟩
      rw [HMO.out, decide_eq_true rfl]
      go_wp2_with fail
      go_ret
      exact ⟨rfl, ((E3.trans E5.out).trans e6).trans e7⟩
end Go.Proofs.Ytjkkedoncdeofaa
