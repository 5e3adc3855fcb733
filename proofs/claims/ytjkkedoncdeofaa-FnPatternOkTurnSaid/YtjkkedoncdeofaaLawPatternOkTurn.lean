/- The law FnPatternOkTurn. -/
import Derived.Test.YtjkkedoncdeofaaPatDraw
import Derived.Test.YtjkkedoncdeofaaManyLaw
namespace Go.Proofs.Ytjkkedoncdeofaa
open Go.RowKit Go.DC
set_option maxRecDepth 10000 in
set_option maxHeartbeats 4000000 in
theorem FnPatternOkTurn_walk (a0 : Option Addr) (c0 : Nat) (xs : List Int) (a0b : Option Addr) (c0b : Nat) (ys : List Int) (w : World) (hx : Bytes w a0 xs) (hm0 : xs.length ≤ 9223372036854775807) (hl0 : xs.length ≤ c0) (_hy : Bytes w a0b ys) (hm0b : ys.length ≤ 9223372036854775807) (_hl0b : ys.length ≤ c0b) :
    Calls Try.prog 8 #[.slice a0 xs.length c0, .slice a0b ys.length c0b] w fun e w' => e = .returned (.bool true) ∧ Ext w w' := by
  by_cases hX : 1048576 < xs.length
  · have hz : (1048576 : Int) < (xs.length : Int) := by omega
    go_enter Try.func8, Try.ntmps8
    go_wp2_with fail
    go_ret
    exact ⟨rfl, Ext.refl _⟩
  have hz0 : ¬ (1048576 : Int) < (xs.length : Int) := by omega
  have hb0 : decide (1048576 < xs.length) = false := by simpa using hX
  by_cases hY : 1048576 < ys.length
  · have hzy : (1048576 : Int) < (ys.length : Int) := by omega
    go_enter Try.func8, Try.ntmps8
    go_wp2_with fail
    go_ret
    exact ⟨rfl, Ext.refl _⟩
  have hzy0 : ¬ (1048576 : Int) < (ys.length : Int) := by omega
  have hby0 : decide (1048576 < ys.length) = false := by simpa using hY
  have HX := Lib.hid hx; clear hx
  go_enter Try.func8, Try.ntmps8
  go_wp2_with fail
  refine (DrawPatternOk_any _ _ xs _ HX.out hm0 hl0).mono ?_
  rintro e w1 ⟨a, c, A, b0, cf, fm, mb, d, mk, s, rfl, ra, rf, rb, hA4, hF5, hM5, hsr, e1⟩
  have RA0 := Lib.hid ra; have RF0 := Lib.hid rf; have RB0 := Lib.hid rb
  clear ra rf rb
  go_wp2_with fail
  refine (PatternOk_any _ _ _ _ _ _ A fm mk s _ RA0.out RF0.out RB0.out (by omega) (by omega) (by omega) (by omega)).mono ?_
  rintro e w2 ⟨rfl, e2⟩
  go_wp2_with fail
  refine (sPatternOk_any _ _ _ _ _ _ A fm mk s _ (RA0.out.ext e2) (RF0.out.ext e2) (RB0.out.ext e2) (by omega) (by omega) (by omega) (by omega)).mono ?_
  rintro e w3 ⟨rfl, e3⟩
  have E3 := (e1.trans e2).trans e3
  cases hok : decide (needV A fm mk s = 0)
  · clear hok
    go_wp2_with fail
    go_ret
    exact ⟨rfl, E3⟩
  have hzero := of_decide_eq_true hok
  have hno : needOk A fm mk s = true := by
    cases h : needOk A fm mk s with
    | true => rfl
    | false => rw [needV_no h] at hzero; cases hzero
  obtain ⟨h1, h2, o3⟩ := needOk_iff.1 hno
  obtain ⟨n, m, f, g, rfl, rfl, hf⟩ := maskOk_ex h1
  have hh := hf.1
  obtain ⟨b, rfl⟩ : ∃ b, mk = tabOf n m b := by
    have := (maskOk_rect h2).2
    rw [tabOf_length, wide_tabOf f (by omega)] at this
    exact ⟨_, this.eq false⟩
  have RA := Lib.hid (RA0.out.ext (e2.trans e3)); have RF := Lib.hid (RF0.out.ext (e2.trans e3)); have RB := Lib.hid (RB0.out.ext (e2.trans e3))
  simp only [tabOf_length]
  obtain ⟨⟨hn1, hn4⟩, hm1, hm4⟩ : (1 ≤ n ∧ n ≤ 4) ∧ 1 ≤ m ∧ m ≤ 4 := ⟨⟨hh.1, hh.2.1⟩, hh.2.2⟩
  rw [needV_tab hf o3] at hzero
  have HU : Hid (manyN n m (notSafeF n m f g b s) = 0) := hzero
  clear hzero hok
  have HF := Lib.hid hf; have O3 := Lib.hid o3
  obtain ⟨hs0, hs1⟩ := inCell_iff.1 o3
  clear hf hh hno h1 h2 o3 RA0 RF0 RB0 e1 e2 e3 hA4 hF5 hM5 hsr
  obtain ⟨p, hp⟩ : ∃ p, ys.length % n = p := ⟨_, rfl⟩
  obtain ⟨r, hr⟩ : ∃ r, ys.length / n % m = r := ⟨_, rfl⟩
  have hpn : p < n := by rw [← hp]; exact Nat.mod_lt _ (by omega)
  have hrm : r < m := by rw [← hr]; exact Nat.mod_lt _ (by omega)
  have hpz : (ys.length : Int) % (n : Int) = (p : Int) := by rw [← hp]; exact (Int.natCast_emod _ _).symm
  have hqz : (ys.length : Int) / (n : Int) = ((ys.length / n : Nat) : Int) := (Int.natCast_ediv _ _).symm
  obtain ⟨qn, hqn⟩ : ∃ qn, ys.length / n = qn := ⟨_, rfl⟩
  rw [hqn] at hqz hr
  have hrz : (qn : Int) % (m : Int) = (r : Int) := by rw [← hr]; exact (Int.natCast_emod _ _).symm
  have hqb : qn ≤ 1048576 := by rw [← hqn]; exact Nat.le_trans (Nat.div_le_self _ _) (by omega)
  have HPZ := Lib.hid hpz; have HQZ := Lib.hid hqz; have HRZ := Lib.hid hrz
  obtain ⟨tb, tf, a1, ck1, ea, ct0⟩ := RA.out.rowC (rect_tabOf n m f) (i := 0) (by omega)
  subst ea
  simp only [Nat.add_zero] at ct0
  have h0z : (0 : Int) < (n : Int) := by omega
  have h0m : (0 : Int) < (m : Int) := by omega
  have hpzn : (p : Int) < (n : Int) := by omega
  have hrzm : (r : Int) < (m : Int) := by omega
  clear hp hr hqn hpz hqz hrz
  have hturn : manyN m n (notSafeF m n (fun i j => f j i) (fun i j => g j i) (fun i j => b j i) s) = 0 := by
    rw [manyN_congr (q := fun i j => notSafeF n m f g b s j i) (fun i j hi hj => by unfold notSafeF; rw [safeF_turn HF.out.pos hj hi])]
    exact (manyN_turn (notSafeF n m f g b s) n m).trans HU.out
  have hless : manyN n m (notSafeF n m f (upd g p r false) b s) = 0 := manyN_zero fun i j hi hj => by
    have := manyN_none HU.out i j hi hj
    unfold notSafeF upd at *
    split
    · rfl
    · exact this
  have HT : Hid (manyN m n (notSafe (fun i j => g j i) fun i j => safeF m n (fun i j => f j i) (fun i j => b j i) i j s) = 0) := hturn
  have HL : Hid (manyN n m (notSafe (upd g p r false) fun i j => safeF n m f b i j s) = 0) := hless
  clear hturn hless
  go_wp2_with fail
  refine (TableTurn_tab _ c n m f w3 w3 RA.out HF.out (Ext.refl _)).mono ?_
  rintro e w4 ⟨a4, c4, rfl, r4, e4⟩
  have R4 := Lib.hid r4; clear r4
  go_wp2_with fail
  refine (copyMask_tab b0 cf n m g w4 (RF.out.ext e4) hn1 hn4 hm1 hm4).mono ?_
  rintro e w5 ⟨o5, co5, vs5, rfl, own, e5⟩
  obtain ⟨_, _, g5, ck5, ev, _, c15, hg5, _, hvs, cg5, fg5, _⟩ := own.atC (i := p) (j := r) hpn hrm
  cases ev
  have hset := own.setC (j := r) hpn hvs false
  unfold encB at cg5 hset
  have hs4 : w4.heap.size ≤ w5.heap.size := e5.size
  have e5' : Ext w4 (w5.setCell ⟨g5, r, none⟩ (.bool false)).drew := (e5.setCell (p := ⟨g5, r, none⟩) hg5 _).drew
  have rows := own_read_n (hset.ext ((Ext.refl _).drew))
  have RX := Lib.hid rows; have E5 := Lib.hid e5'
  have ct0' := (e4.trans e5).cell ct0
  have E4 := Lib.hid e4
  clear hset own rows e5' e5 ct0 hvs e4
  have hpz := HPZ.out; have hqz := HQZ.out; have hrz := HRZ.out
  have tpz : (ys.length : Int).tmod (n : Int) = (p : Int) := by rw [Int.tmod_eq_emod_of_nonneg (by omega)]; exact hpz
  have tqz : (ys.length : Int).tdiv (n : Int) = (qn : Int) := by rw [Int.tdiv_eq_ediv_of_nonneg (by omega)]; exact hqz
  have trz : (qn : Int).tmod (m : Int) = (r : Int) := by rw [Int.tmod_eq_emod_of_nonneg (by omega)]; exact hrz
  have hn0 : ¬ (n : Int) = 0 := by omega
  have hmm0 : ¬ (m : Int) = 0 := by omega
  have hn0b : ((n : Int) == 0) = false := by rw [beq_eq_false_iff_ne]; omega
  have hmm0b : ((m : Int) == 0) = false := by rw [beq_eq_false_iff_ne]; omega
  have hn0n : ¬ n = 0 := by omega
  have hm0n : ¬ m = 0 := by omega
  have h0n : 0 < n := by omega
  have wpz : IntKind.i64.wrap (p : Int) = (p : Int) := IntWalk.i64_in _ (by omega)
  have wrz : IntKind.i64.wrap (r : Int) = (r : Int) := IntWalk.i64_in _ (by omega)
  have wqz : IntKind.i64.wrap (qn : Int) = (qn : Int) := IntWalk.i64_in _ (by omega)
  go_wp2_with fail
  go_still_tail 18, (by kernel_rfl)
  go_wp2_with fail
  clear hpz hqz hrz tpz tqz trz wqz wpz wrz hn0 hmm0 hn0b hmm0b hn0n hm0n h0n
  have x35 := Lib.hid (E4.out.trans E5.out)
  refine (turnMask_tab b0 cf n m g _ _ (RF.out.ext x35.out) hn1 hn4 hm4 (Ext.refl _)).mono ?_
  rintro e w6 ⟨a6, c6, rfl, r6, e6⟩
  have R6 := Lib.hid r6; clear r6
  go_wp2_with fail
  refine (turnMask_tab mb d n m b w6 w6 (RB.out.ext (x35.out.trans e6)) hn1 hn4 hm4 (Ext.refl _)).mono ?_
  rintro e w7 ⟨a7, c7, rfl, r7, e7⟩
  have R7 := Lib.hid r7; clear r7
  have e67 := e6.trans e7
  go_wp2_with fail
  refine (PatternOk_tab a4 a6 a7 c4 c6 c7 m n s _ _ _ w7 w7 (R4.out.ext (E5.out.trans e67)) (R6.out.ext e7) R7.out HF.out.turned O3.out (Ext.refl _)).mono ?_
  rintro e w8 ⟨rfl, e8⟩
  rw [HT.out, decide_eq_true rfl]
  have e68 := e67.trans e8
  go_wp2_with fail
  refine (PatternOk_tab _ _ mb c co5 d n m s f _ b w8 w8 (RA.out.ext (x35.out.trans e68)) (RX.out.ext e68) (RB.out.ext (x35.out.trans e68)) HF.out O3.out (Ext.refl _)).mono ?_
  rintro e w9 ⟨rfl, e9⟩
  rw [HL.out, decide_eq_true rfl]
  go_wp2_with fail
  go_ret
  exact ⟨rfl, (E3.trans x35.out).trans (e68.trans e9)⟩
end Go.Proofs.Ytjkkedoncdeofaa
