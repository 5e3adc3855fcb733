/- The law FnPatternNeedMore. -/
import Derived.Test.YtjkkedoncdeofaaPatDraw
import Derived.Test.YtjkkedoncdeofaaManyLaw
namespace Go.Proofs.Ytjkkedoncdeofaa
open Go.RowKit Go.DC
theorem manyN_upd_one {n m : Nat} {q : Nat → Nat → Bool} {k l : Nat} (hk : k < n) (hl : l < m) (h2 : q k l = true) : manyN n m (upd q k l false) + 1 = manyN n m q := by
  have e1 : ∀ i, i < n → sumN m (one (upd q k l false) i) = if i = k then sumN m (one q i) - 1 else sumN m (one q i) := fun i _ => by
    by_cases e : i = k
    · subst e
      rw [if_pos rfl]
      have h4 := sumN_off (one q i) hl
      have h5 : sumN m (one (upd q i l false) i) = sumN m (fun j => if j = l then 0 else one q i j) := sumN_congr fun j _ => by
        unfold one upd
        by_cases e2 : j = l
        · simp [e2]
        · simp [e2]
      have h6 : one q i l = 1 := by unfold one; rw [h2]; rfl
      omega
    · rw [if_neg e]
      exact sumN_congr fun j _ => by unfold one upd; simp [e]
  unfold manyN
  rw [sumN_congr e1]
  have := sumN_bump (fun i => sumN m (one q i)) (-1) hk
  have e3 : sumN n (fun i => if i = k then sumN m (one q i) - 1 else sumN m (one q i)) = sumN n (fun l => if l = k then sumN m (one q l) + -1 else sumN m (one q l)) := sumN_congr fun i _ => by split <;> rfl
  omega
theorem manyN_upd_false {n m : Nat} {q : Nat → Nat → Bool} {i j : Nat} (hi : i < n) (hj : j < m) : manyN n m (upd q i j false) ≤ manyN n m q ∧ manyN n m q ≤ manyN n m (upd q i j false) + 1 := by
  have h1 : manyN n m (upd q i j false) ≤ manyN n m q := manyN_le fun k l _ _ e => by
    unfold upd at e
    split at e
    · cases e
    · exact e
  refine ⟨h1, ?_⟩
  cases hq : q i j with
  | false =>
    have : manyN n m (upd q i j false) = manyN n m q := manyN_congr fun k l _ _ => by
      unfold upd
      split
      · rename_i h; rw [h.1, h.2, hq]
      · rfl
    omega
  | true => have := manyN_upd_one hi hj hq; omega
set_option maxRecDepth 10000 in
set_option maxHeartbeats 4000000 in
theorem FnPatternNeedMore_walk (a0 : Option Addr) (c0 : Nat) (xs : List Int) (a0b : Option Addr) (c0b : Nat) (ys : List Int) (w : World) (hx : Bytes w a0 xs) (hm0 : xs.length ≤ 9223372036854775807) (hl0 : xs.length ≤ c0) (_hy : Bytes w a0b ys) (hm0b : ys.length ≤ 9223372036854775807) (_hl0b : ys.length ≤ c0b) :
    Calls Try.prog 4 #[.slice a0 xs.length c0, .slice a0b ys.length c0b] w fun e w' => e = .returned (.bool true) ∧ Ext w w' := by
  by_cases hX : 1048576 < xs.length
  · have hz : (1048576 : Int) < (xs.length : Int) := by omega
    go_enter Try.func4, Try.ntmps4
    go_wp2_with fail
    go_ret
    exact ⟨rfl, Ext.refl _⟩
  have hz0 : ¬ (1048576 : Int) < (xs.length : Int) := by omega
  have hb0 : decide (1048576 < xs.length) = false := by simpa using hX
  by_cases hY : 1048576 < ys.length
  · have hzy : (1048576 : Int) < (ys.length : Int) := by omega
    go_enter Try.func4, Try.ntmps4
    go_wp2_with fail
    go_ret
    exact ⟨rfl, Ext.refl _⟩
  have hzy0 : ¬ (1048576 : Int) < (ys.length : Int) := by omega
  have hby0 : decide (1048576 < ys.length) = false := by simpa using hY
  have HX := Lib.hid hx; clear hx
  go_enter Try.func4, Try.ntmps4
  go_wp2_with fail
  refine (DrawPatternNeed_any _ _ xs _ HX.out hm0 hl0).mono ?_
  rintro e w1 ⟨a, c, A, b0, cf, fm, mb, d, mk, s, rfl, ra, rf, rb, hA4, hF5, hM5, hsr, e1⟩
  have RA0 := Lib.hid ra; have RF0 := Lib.hid rf; have RB0 := Lib.hid rb
  clear ra rf rb
  go_wp2_with fail
  refine (PatternNeed_any _ _ _ _ _ _ A fm mk s _ RA0.out RF0.out RB0.out (by omega) (by omega) (by omega) (by omega)).mono ?_
  rintro e w2 ⟨rfl, e2⟩
  go_wp2_with fail
  refine (sPatternNeed_any _ _ _ _ _ _ A fm mk s _ (RA0.out.ext e2) (RF0.out.ext e2) (RB0.out.ext e2) (by omega) (by omega) (by omega) (by omega)).mono ?_
  rintro e w3 ⟨rfl, e3⟩
  have E3 := (e1.trans e2).trans e3
  cases hno : needOk A fm mk s
  · rw [needV_no hno]
    clear hno
    go_wp2_with fail
    go_ret
    exact ⟨rfl, E3⟩
  obtain ⟨h1, h2, o3⟩ := needOk_iff.1 hno
  obtain ⟨n, m, f, g, rfl, rfl, hf⟩ := maskOk_ex h1
  have hh := hf.1
  obtain ⟨b, rfl⟩ : ∃ b, mk = tabOf n m b := by
    have := (maskOk_rect h2).2
    rw [tabOf_length, wide_tabOf f (by omega)] at this
    exact ⟨_, this.eq false⟩
  have RA := Lib.hid (RA0.out.ext (e2.trans e3)); have RF := Lib.hid (RF0.out.ext (e2.trans e3)); have RB := Lib.hid (RB0.out.ext (e2.trans e3))
  simp only [tabOf_length]
  obtain ⟨⟨hn1, hn4⟩, hm1, hm4⟩ : (1 ≤ n ∧ n ≤ 4) ∧ 1 ≤ m ∧ m ≤ 4 := ⟨⟨hh.1, hh.2.1⟩, hh.2.2⟩
  rw [needV_tab hf o3]
  obtain ⟨hu0, hu1⟩ := manyN_bd (notSafe g (fun i j => safeF n m f b i j s)) hn4 hm4
  obtain ⟨u, hu⟩ : ∃ u, manyN n m (notSafe g (fun i j => safeF n m f b i j s)) = u := ⟨_, rfl⟩
  rw [hu] at hu0 hu1 ⊢
  have HU : Hid (manyN n m (notSafeF n m f g b s) = u) := hu
  have hbb : (u != u) = false := by simp
  have hbb2 : decide (u < 0) = false := by simpa using hu0
  clear hu
  have HF := Lib.hid hf; have O3 := Lib.hid o3
  obtain ⟨hs0, hs1⟩ := inCell_iff.1 o3
  clear hf hh hno h1 h2 o3 RA0 RF0 RB0 e1 e2 e3 hA4 hF5 hM5 hsr
  obtain ⟨p, hp⟩ : ∃ p, ys.length % n = p := ⟨_, rfl⟩
  obtain ⟨r, hr⟩ : ∃ r, ys.length / n % m = r := ⟨_, rfl⟩
  have hpn : p < n := by rw [← hp]; exact Nat.mod_lt _ (by omega)
  have hrm : r < m := by rw [← hr]; exact Nat.mod_lt _ (by omega)
  have hpz : (ys.length : Int) % (n : Int) = (p : Int) := by rw [← hp]; exact (Int.natCast_emod _ _).symm
  have hqz : (ys.length : Int) / (n : Int) = ((ys.length / n : Nat) : Int) := (Int.natCast_ediv _ _).symm
  obtain ⟨qn, hqn⟩ : ∃ qn, ys.length / n = qn := ⟨_, rfl⟩
  rw [hqn] at hqz hr
  have hrz : (qn : Int) % (m : Int) = (r : Int) := by rw [← hr]; exact (Int.natCast_emod _ _).symm
  have hqb : qn ≤ 1048576 := by rw [← hqn]; exact Nat.le_trans (Nat.div_le_self _ _) (by omega)
  have HPZ := Lib.hid hpz; have HQZ := Lib.hid hqz; have HRZ := Lib.hid hrz
  obtain ⟨tb, tf, a1, ck1, ea, ct0⟩ := RA.out.rowC (rect_tabOf n m f) (i := 0) (by omega)
  subst ea
  simp only [Nat.add_zero] at ct0
  have h0z : (0 : Int) < (n : Int) := by omega
  have h0m : (0 : Int) < (m : Int) := by omega
  have hpzn : (p : Int) < (n : Int) := by omega
  have hrzm : (r : Int) < (m : Int) := by omega
  clear hp hr hqn hpz hqz hrz
  obtain ⟨v, hv⟩ : ∃ v, manyN n m (notSafeF n m f (upd g p r false) b s) = v := ⟨_, rfl⟩
  obtain ⟨x, hxx⟩ : ∃ x, manyN n m (notSafeF n m f g (upd b p r true) s) = x := ⟨_, rfl⟩
  have hvu : v ≤ u ∧ u ≤ v + 1 := by
    have h1 := manyN_upd_false (q := notSafeF n m f g b s) hpn hrm
    have h2 : manyN n m (upd (notSafeF n m f g b s) p r false) = v := by
      rw [← hv]
      refine manyN_congr fun i j _ _ => ?_
      unfold notSafeF upd
      split <;> rfl
    rw [h2, HU.out] at h1
    exact h1
  have hxu : x ≤ u := by
    rw [← hxx, ← HU.out]
    refine manyN_le fun i j hi hj e => ?_
    unfold notSafeF at *
    simp only [Bool.and_eq_true, Bool.not_eq_true'] at e ⊢
    refine ⟨e.1, ?_⟩
    cases hs : safeF n m f b i j s with
    | false => rfl
    | true =>
      rw [safeF_more HF.out.pos hi hj hs (fun k l _ _ e => by unfold upd; split <;> simp [e])] at e
      cases e.2
  have hxb : 0 ≤ x ∧ x ≤ 16 := by rw [← hxx]; exact manyN_bd _ hn4 hm4
  have hvb : 0 ≤ v ∧ v ≤ 16 := by rw [← hv]; exact manyN_bd _ hn4 hm4
  have HV : Hid (manyN n m (notSafe (upd g p r false) fun i j => safeF n m f b i j s) = v) := hv
  have HXX : Hid (manyN n m (notSafe g fun i j => safeF n m f (upd b p r true) i j s) = x) := hxx
  obtain ⟨hxb0, hxb1⟩ := hxb
  obtain ⟨hvb0, hvb1⟩ := hvb
  clear hv hxx
  have hpz := HPZ.out; have hqz := HQZ.out; have hrz := HRZ.out
  have tpz : (ys.length : Int).tmod (n : Int) = (p : Int) := by rw [Int.tmod_eq_emod_of_nonneg (by omega)]; exact hpz
  have tqz : (ys.length : Int).tdiv (n : Int) = (qn : Int) := by rw [Int.tdiv_eq_ediv_of_nonneg (by omega)]; exact hqz
  have trz : (qn : Int).tmod (m : Int) = (r : Int) := by rw [Int.tmod_eq_emod_of_nonneg (by omega)]; exact hrz
  have hn0 : ¬ (n : Int) = 0 := by omega
  have hmm0 : ¬ (m : Int) = 0 := by omega
  have hn0b : ((n : Int) == 0) = false := by rw [beq_eq_false_iff_ne]; omega
  have hmm0b : ((m : Int) == 0) = false := by rw [beq_eq_false_iff_ne]; omega
  have hn0n : ¬ n = 0 := by omega
  have hm0n : ¬ m = 0 := by omega
  have h0n : 0 < n := by omega
  have wpz : IntKind.i64.wrap (p : Int) = (p : Int) := IntWalk.i64_in _ (by omega)
  have wrz : IntKind.i64.wrap (r : Int) = (r : Int) := IntWalk.i64_in _ (by omega)
  have wqz : IntKind.i64.wrap (qn : Int) = (qn : Int) := IntWalk.i64_in _ (by omega)
  go_wp2_with fail
  go_quiet (fail)
  go_wp2_with fail
  clear hpz hqz hrz tpz tqz trz wqz wpz wrz hn0 hmm0 hn0b hmm0b hn0n hm0n h0n
  refine (copyMask_tab mb d n m b _ (RB.out.ext ((Ext.refl _).drewN _)) hn1 hn4 hm1 hm4).mono ?_
  rintro e w5 ⟨o5, co5, vs5, rfl, own, e50⟩
  have e5 : Ext w3 w5 := ((Ext.refl _).drewN _).trans e50
  have hs50 := e50.size
  clear e50
  obtain ⟨_, _, g5, ck5, ev, _, c15, hg5, _, hvs, cg5, fg5, _⟩ := own.atC (i := p) (j := r) hpn hrm
  cases ev
  have hset := own.setC (j := r) hpn hvs true
  unfold encB at cg5 hset
  have e5' : Ext w3 (w5.setCell ⟨g5, r, none⟩ (.bool true)) := e5.setCell (p := ⟨g5, r, none⟩) hg5 _
  have rows := own_read_n hset
  have RX := Lib.hid rows; have E5 := Lib.hid e5'
  clear hset own rows e5' e5 ct0 hvs
  go_wp2_with fail
  obtain ⟨w6, hw6⟩ : ∃ w6, w5.setCell ⟨g5, r, none⟩ (.bool true) = w6 := ⟨_, rfl⟩
  rw [hw6] at RX E5 ⊢
  clear hw6 c15 cg5 fg5
  refine (copyMask_tab b0 cf n m g w6 (RF.out.ext E5.out) hn1 hn4 hm1 hm4).mono ?_
  rintro e w7 ⟨o7, co7, vs7, rfl, own, e7⟩
  obtain ⟨_, _, g7, ck7, ev, _, c17, hg7, _, hvs, cg7, fg7, _⟩ := own.atC (i := p) (j := r) hpn hrm
  cases ev
  have hset := own.setC (j := r) hpn hvs false
  unfold encB at cg7 hset
  have e7' : Ext w6 (w7.setCell ⟨g7, r, none⟩ (.bool false)) := e7.setCell (p := ⟨g7, r, none⟩) hg7 _
  have rows := own_read_n hset
  have RY := Lib.hid rows; have E7 := Lib.hid e7'
  clear hset own rows e7' e7 hvs
  go_wp2_with fail
  obtain ⟨w8, hw8⟩ : ∃ w8, w7.setCell ⟨g7, r, none⟩ (.bool false) = w8 := ⟨_, rfl⟩
  rw [hw8] at RY E7 ⊢
  clear hw8 c17 cg7 fg7
  have E8 := Lib.hid (E5.out.trans E7.out)
  refine (PatternNeed_tab _ _ mb c co7 d n m s f _ b w8 w8 (RA.out.ext E8.out) RY.out (RB.out.ext E8.out) HF.out O3.out (Ext.refl _)).mono ?_
  rintro e w9 ⟨rfl, e9⟩
  rw [HV.out]
  go_wp2_with fail
  refine (PatternNeed_tab _ b0 _ c cf co5 n m s f g _ w9 w9 (RA.out.ext (E8.out.trans e9)) (RF.out.ext (E8.out.trans e9)) (RX.out.ext (E7.out.trans e9)) HF.out O3.out (Ext.refl _)).mono ?_
  rintro e w10 ⟨rfl, e10⟩
  rw [HXX.out]
  by_cases huv : u - v = 0
  · have hq1 : (u - v == 0) = true := by rw [beq_iff_eq]; exact huv
    have hq3 : decide (x ≤ u) = true := by simpa using hxu
    go_wp2_with fail
    go_ret
    exact ⟨rfl, ((E3.trans E8.out).trans e9).trans e10⟩
  · have hq1 : (u - v == 0) = false := by rw [beq_eq_false_iff_ne]; exact huv
    have hq2 : (u - v == 1) = true := by rw [beq_iff_eq]; omega
    have hq3 : decide (x ≤ u) = true := by simpa using hxu
    have hq4 : u - v = 1 := by omega
    go_wp2_with fail
    go_ret
    exact ⟨rfl, ((E3.trans E8.out).trans e9).trans e10⟩
end Go.Proofs.Ytjkkedoncdeofaa
