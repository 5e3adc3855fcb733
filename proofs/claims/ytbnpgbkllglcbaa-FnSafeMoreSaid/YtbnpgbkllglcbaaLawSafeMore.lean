/- The law FnSafeMore. -/
import Derived.Test.YtbnpgbkllglcbaaSafeLaw
namespace Go.Proofs.Ytbnpgbkllglcbaa
open Go.RowKit Go.DC
set_option maxRecDepth 10000 in
set_option maxHeartbeats 4000000 in
theorem FnSafeMore_walk (a0 : Option Addr) (c0 : Nat) (xs : List Int) (a0b : Option Addr) (c0b : Nat) (ys : List Int) (w : World) (hx : Bytes w a0 xs) (hm0 : xs.length ≤ 9223372036854775807) (hl0 : xs.length ≤ c0) (_hy : Bytes w a0b ys) (hm0b : ys.length ≤ 9223372036854775807) (_hl0b : ys.length ≤ c0b) :
    Calls Try.prog 5 #[.slice a0 xs.length c0, .slice a0b ys.length c0b] w fun e w' => e = .returned (.bool true) ∧ Ext w w' := by
  by_cases hX : 1048576 < xs.length
  · have hz : (1048576 : Int) < (xs.length : Int) := by omega
    go_enter Try.func5, Try.ntmps5
    go_wp2_with fail
    go_ret
    exact ⟨rfl, Ext.refl _⟩
  have hz0 : ¬ (1048576 : Int) < (xs.length : Int) := by omega
  have hb0 : decide (1048576 < xs.length) = false := by simpa using hX
  by_cases hY : 1048576 < ys.length
  · have hzy : (1048576 : Int) < (ys.length : Int) := by omega
    go_enter Try.func5, Try.ntmps5
    go_wp2_with fail
    go_ret
    exact ⟨rfl, Ext.refl _⟩
  have hzy0 : ¬ (1048576 : Int) < (ys.length : Int) := by omega
  have hby0 : decide (1048576 < ys.length) = false := by simpa using hY
  have HX := Lib.hid hx; clear hx
  go_enter Try.func5, Try.ntmps5
  go_wp2_with fail
  refine (DrawPatternSafe_any _ _ xs _ HX.out hm0 hl0).mono ?_
  rintro e w1 ⟨a, c, A, mb, d, mk, i, j, s, rfl, ra, rb, hA4, hM5, hi, hj, hsr, e1⟩
  have RA0 := Lib.hid ra; have RB0 := Lib.hid rb
  clear ra rb
  go_wp2_with fail
  refine (PatternSafe_any _ _ _ _ A mk i j s _ RA0.out RB0.out (by omega) (by omega)).mono ?_
  rintro e w2 ⟨rfl, e2⟩
  go_wp2_with fail
  refine (sPatternSafe_any _ _ _ _ A mk i j s _ (RA0.out.ext e2) (RB0.out.ext e2) (by omega) (by omega) (by omega) (by omega) (by omega)).mono ?_
  rintro e w3 ⟨rfl, e3⟩
  have E3 := (e1.trans e2).trans e3
  cases ov : safeV A mk i j s
  · clear ov
    go_wp2_with fail
    go_ret
    exact ⟨rfl, E3⟩
  have o1 : hasC A mk i j = true := by cases h : hasC A mk i j with
    | true => rfl
    | false => rw [safeV_no h] at ov; cases ov
  have o3 : inCell s = true := by cases h : inCell s with
    | true => rfl
    | false => rw [safeV_no2 h] at ov; cases ov
  obtain ⟨k, l, rfl, rfl, hk, hl, hok⟩ := hasC_nat o1
  obtain ⟨n, m, f, b, rfl, rfl, hf⟩ := maskOk_ex hok
  have RA := Lib.hid (RA0.out.ext (e2.trans e3)); have RB := Lib.hid (RB0.out.ext (e2.trans e3))
  have hh := hf.1
  rw [wide_tabOf f (by omega)] at hl
  rw [tabOf_length] at hk
  simp only [tabOf_length]
  rw [safeV_tab hf hk hl o3] at ov
  have HSF := Lib.hid ov
  have O3 := Lib.hid o3
  obtain ⟨hs0, hs1⟩ := inCell_iff.1 o3
  have HF := Lib.hid hf
  have hkz : (k : Int) < (n : Int) := by omega
  have hlz : (l : Int) < (m : Int) := by omega
  obtain ⟨⟨hn1, hn4⟩, hm1, hm4⟩ : (1 ≤ n ∧ n ≤ 4) ∧ 1 ≤ m ∧ m ≤ 4 := ⟨⟨hh.1, hh.2.1⟩, hh.2.2⟩
  clear ov hf hh o1 o3 hok RA0 RB0 e1 e2 e3 hA4 hM5 hi hj hsr
  obtain ⟨p, hp⟩ : ∃ p, ys.length % n = p := ⟨_, rfl⟩
  obtain ⟨r, hr⟩ : ∃ r, ys.length / n % m = r := ⟨_, rfl⟩
  have hpn : p < n := by rw [← hp]; exact Nat.mod_lt _ (by omega)
  have hrm : r < m := by rw [← hr]; exact Nat.mod_lt _ (by omega)
  have hpz : (ys.length : Int) % (n : Int) = (p : Int) := by rw [← hp]; exact (Int.natCast_emod _ _).symm
  have hqz : (ys.length : Int) / (n : Int) = ((ys.length / n : Nat) : Int) := (Int.natCast_ediv _ _).symm
  obtain ⟨qn, hqn⟩ : ∃ qn, ys.length / n = qn := ⟨_, rfl⟩
  rw [hqn] at hqz hr
  have hrz : (qn : Int) % (m : Int) = (r : Int) := by rw [← hr]; exact (Int.natCast_emod _ _).symm
  have hqb : qn ≤ 1048576 := by rw [← hqn]; exact Nat.le_trans (Nat.div_le_self _ _) (by omega)
  have hmore : safeF n m f (upd b p r true) k l s = true := safeF_more HF.out.pos hk hl HSF.out (fun i j _ _ e => by unfold upd; split <;> simp [e])
  have HM := Lib.hid hmore
  have htold : 0 < s → toldF n m f b k l = false := fun h => safe_not_told HSF.out h HF.out.pos hk hl
  have HT := Lib.hid htold
  have HPZ := Lib.hid hpz; have HQZ := Lib.hid hqz; have HRZ := Lib.hid hrz
  obtain ⟨tb, tf, a1, ck1, ea, ct0⟩ := RA.out.rowC (rect_tabOf n m f) (i := 0) (by omega)
  subst ea
  simp only [Nat.add_zero] at ct0
  have h0z : (0 : Int) < (n : Int) := by omega
  have h0m : (0 : Int) < (m : Int) := by omega
  have hpzn : (p : Int) < (n : Int) := by omega
  have hrzm : (r : Int) < (m : Int) := by omega
  clear hp hr hqn hmore htold hpz hqz hrz
  go_wp2_with fail
  refine (copyMask_tab mb d n m b w3 RB.out hn1 hn4 hm1 hm4).mono ?_
  rintro e w4 ⟨o, co, vs, rfl, own, e4⟩
  obtain ⟨_, _, g, ck, ev, ho, c1, hg, _, hvs, cg, fg, _⟩ := own.atC (i := p) (j := r) hpn hrm
  cases ev
  have hset := own.setC (j := r) hpn hvs true
  unfold encB at cg hset
  have e4' : Ext w3 (w4.setCell ⟨g, r, none⟩ (.bool true)).drew := (e4.setCell (p := ⟨g, r, none⟩) hg _).drew
  obtain ⟨_, _, hv, _, rows, _⟩ := (hset.ext ((Ext.refl _).drew)).rows
  rw [tabOf_length] at hv
  cases hv
  have RX := Lib.hid rows; have E4 := Lib.hid e4'
  have ct0' := e4.cell ct0
  clear hset own rows e4' e4 ct0
  have hpz := HPZ.out; have hqz := HQZ.out; have hrz := HRZ.out
  have tpz : (ys.length : Int).tmod (n : Int) = (p : Int) := by rw [Int.tmod_eq_emod_of_nonneg (by omega)]; exact hpz
  have tqz : (ys.length : Int).tdiv (n : Int) = (qn : Int) := by rw [Int.tdiv_eq_ediv_of_nonneg (by omega)]; exact hqz
  have trz : (qn : Int).tmod (m : Int) = (r : Int) := by rw [Int.tmod_eq_emod_of_nonneg (by omega)]; exact hrz
  have hn0 : ¬ (n : Int) = 0 := by omega
  have hm0 : ¬ (m : Int) = 0 := by omega
  have hn0b : ((n : Int) == 0) = false := by rw [beq_eq_false_iff_ne]; omega
  have hm0b : ((m : Int) == 0) = false := by rw [beq_eq_false_iff_ne]; omega
  have hn0n : ¬ n = 0 := by omega
  have hm0n : ¬ m = 0 := by omega
  have wpz : IntKind.i64.wrap (p : Int) = (p : Int) := IntWalk.i64_in _ (by omega)
  have wrz : IntKind.i64.wrap (r : Int) = (r : Int) := IntWalk.i64_in _ (by omega)
  have wqz : IntKind.i64.wrap (qn : Int) = (qn : Int) := IntWalk.i64_in _ (by omega)
  go_wp2_with fail
  have h0n : 0 < n := by omega
  go_still_tail 18, (by kernel_rfl)
  go_wp2_with fail
  clear hpz hqz hrz tpz tqz trz wqz wpz wrz hn0 hm0 hn0b hm0b hn0n hm0n
  refine (PatternSafe_tab _ _ c co n m k l s f _ _ _ (RA.out.ext E4.out) RX.out HF.out hk hl O3.out (Ext.refl _)).mono ?_
  rintro e w5 ⟨rfl, e5⟩
  rw [HM.out]
  by_cases hs : s = 0
  · subst hs
    go_wp2_with fail
    go_ret
    exact ⟨rfl, (E3.trans E4.out).trans e5⟩
  · have hsb : (s == 0) = false := by simpa using hs
    have ht := HT.out (by omega)
    have HT2 := Lib.hid ht
    clear ht hs
    go_wp2_with fail
    refine (BoundTold_tab _ mb c d n m k l f b w5 w5 (RA.out.ext (E4.out.trans e5)) (RB.out.ext (E4.out.trans e5)) HF.out hk hl (Ext.refl _)).mono ?_
    rintro e w6 ⟨rfl, e6⟩
    rw [HT2.out]
    go_wp2_with fail
    go_ret
    exact ⟨rfl, ((E3.trans E4.out).trans e5).trans e6⟩
end Go.Proofs.Ytbnpgbkllglcbaa
