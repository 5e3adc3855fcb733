/- The law FnFitSame. -/
import Derived.Test.YtelcdjbbcffliaaFitImpl
import Derived.Test.YtelcdjbbcffliaaFitSpec
import Derived.Test.YtelcdjbbcffliaaFitDraw
import Derived.Test.YtelcdjbbcffliaaSafeLaw
namespace Go.Proofs.Ytelcdjbbcffliaa
open Go.RowKit Go.DC
set_option maxRecDepth 10000 in
set_option maxHeartbeats 4000000 in
theorem FnFitSame_walk (a0 : Option Addr) (c0 : Nat) (xs : List Int) (a0b : Option Addr) (c0b : Nat) (ys : List Int) (w : World) (hx : Bytes w a0 xs) (hm0 : xs.length ≤ 9223372036854775807) (hl0 : xs.length ≤ c0) (_hy : Bytes w a0b ys) (hm0b : ys.length ≤ 9223372036854775807) (_hl0b : ys.length ≤ c0b) :
    Calls Try.prog 13 #[.slice a0 xs.length c0, .slice a0b ys.length c0b] w fun e w' => e = .returned (.bool true) ∧ Ext w w' := by
  by_cases hX : 1048576 < xs.length
  · have hz : (1048576 : Int) < (xs.length : Int) := by omega
    go_enter Try.func13, Try.ntmps13
    go_wp2_with fail
    go_ret
    exact ⟨rfl, Ext.refl _⟩
  have hz0 : ¬ (1048576 : Int) < (xs.length : Int) := by omega
  have hb0 : decide (1048576 < xs.length) = false := by simpa using hX
  by_cases hY : 1048576 < ys.length
  · have hzy : (1048576 : Int) < (ys.length : Int) := by omega
    go_enter Try.func13, Try.ntmps13
    go_wp2_with fail
    go_ret
    exact ⟨rfl, Ext.refl _⟩
  have hzy0 : ¬ (1048576 : Int) < (ys.length : Int) := by omega
  have hby0 : decide (1048576 < ys.length) = false := by simpa using hY
  have HX := Lib.hid hx; clear hx
  go_enter Try.func13, Try.ntmps13
  go_wp2_with fail
  refine (DrawFitTables_any _ _ xs _ HX.out hm0 hl0).mono ?_
  rintro e w1 ⟨a, c, A, mb, cm, mk, ax, cx, X, rfl, ra, rb, rx, hA4, hM5, hX4, e1⟩
  have RA0 := Lib.hid ra; have RB0 := Lib.hid rb; have RX0 := Lib.hid rx
  clear ra rb rx
  go_wp2_with fail
  refine (FitTables_any _ _ _ _ _ _ A mk X _ RA0.out RB0.out RX0.out (by omega) (by omega) (by omega)).mono ?_
  rintro e w2 ⟨rfl, e2⟩
  go_wp2_with fail
  refine (sFitTables_any _ _ _ _ _ _ A mk X _ (RA0.out.ext e2) (RB0.out.ext e2) (RX0.out.ext e2) (by omega) (by omega) (by omega)).mono ?_
  rintro e w3 ⟨rfl, e3⟩
  have E3 := (e1.trans e2).trans e3
  cases hv : fitV A mk X
  · clear hv
    go_wp2_with fail
    go_ret
    exact ⟨rfl, E3⟩
  obtain ⟨n, m, f, b, y, rfl, rfl, rfl, hf, hy⟩ := fitV_ex hv
  have RA := Lib.hid (RA0.out.ext (e2.trans e3)); have RB := Lib.hid (RB0.out.ext (e2.trans e3)); have RX := Lib.hid (RX0.out.ext (e2.trans e3))
  simp only [tabOf_length]
  obtain ⟨⟨hn1, hn4⟩, hm1, hm4⟩ : (1 ≤ n ∧ n ≤ 4) ∧ 1 ≤ m ∧ m ≤ 4 := ⟨⟨hf.1.1, hf.1.2.1⟩, hf.1.2.2⟩
  have HF := Lib.hid hf; have HY := Lib.hid hy
  clear hf hy hv RA0 RB0 RX0 e1 e2 e3 hA4 hM5 hX4
  obtain ⟨p, hp⟩ : ∃ p, ys.length % n = p := ⟨_, rfl⟩
  obtain ⟨r, hr⟩ : ∃ r, ys.length / n % m = r := ⟨_, rfl⟩
  have hpn : p < n := by rw [← hp]; exact Nat.mod_lt _ (by omega)
  have hrm : r < m := by rw [← hr]; exact Nat.mod_lt _ (by omega)
  have hpz : (ys.length : Int) % (n : Int) = (p : Int) := by rw [← hp]; exact (Int.natCast_emod _ _).symm
  have hqz : (ys.length : Int) / (n : Int) = ((ys.length / n : Nat) : Int) := (Int.natCast_ediv _ _).symm
  obtain ⟨qn, hqn⟩ : ∃ qn, ys.length / n = qn := ⟨_, rfl⟩
  rw [hqn] at hqz hr
  have hrz : (qn : Int) % (m : Int) = (r : Int) := by rw [← hr]; exact (Int.natCast_emod _ _).symm
  have hqb : qn ≤ 1048576 := by rw [← hqn]; exact Nat.le_trans (Nat.div_le_self _ _) (by omega)
  have HPZ := Lib.hid hpz; have HQZ := Lib.hid hqz; have HRZ := Lib.hid hrz
  obtain ⟨tb, tf, a1, ck1, ea, ct0⟩ := RA.out.rowC (rect_tabOf n m f) (i := 0) (by omega)
  subst ea
  simp only [Nat.add_zero] at ct0
  have h0z : (0 : Int) < (n : Int) := by omega
  have h0m : (0 : Int) < (m : Int) := by omega
  have hpzn : (p : Int) < (n : Int) := by omega
  have hrzm : (r : Int) < (m : Int) := by omega
  clear hp hr hqn hpz hqz hrz
  obtain ⟨hu0, hu1⟩ := HF.out.high_bd (b := b) hpn hrm
  have hv0 := low_pos (b := b) HF.out.pos hpn hrm
  have hv1 := low_le (b := b) HF.out.pos hpn hrm
  have hf1 := HF.out.2 p r hpn hrm
  obtain ⟨u, hu⟩ : ∃ u, high n m f b p r = u := ⟨_, rfl⟩
  obtain ⟨v, hv⟩ : ∃ v, low n m f b p r = v := ⟨_, rfl⟩
  rw [hu] at hu0 hu1
  rw [hv] at hv0 hv1
  have HIGH : Hid (∀ w0 wx : World, Ext w3 w0 → Ext w0 wx → Calls Try.prog 16 #[.slice (some ⟨tb, tf, none⟩) n c, .slice mb n cm, .int .i64 p, .int .i64 r] wx (AddOut u w0)) := fun w0 wx e0 ex => by
    have := BoundHigh_tab (some ⟨tb, tf, none⟩) mb c cm n m p r f b w0 wx (RA.out.ext (e0.trans ex)) (RB.out.ext (e0.trans ex)) HF.out hpn hrm ex
    rwa [hu] at this
  have LOW : Hid (∀ w0 wx : World, Ext w3 w0 → Ext w0 wx → Calls Try.prog 18 #[.slice (some ⟨tb, tf, none⟩) n c, .slice mb n cm, .int .i64 p, .int .i64 r] wx (AddOut v w0)) := fun w0 wx e0 ex => by
    have := BoundLow_tab (some ⟨tb, tf, none⟩) mb c cm n m p r f b w0 wx (RA.out.ext (e0.trans ex)) (RB.out.ext (e0.trans ex)) HF.out hpn hrm ex
    rwa [hv] at this
  have HIGHX : Hid (tabOk (tabOf n m y) = true → ∀ w0 wx : World, Ext w3 w0 → Ext w0 wx → Calls Try.prog 16 #[.slice ax n cx, .slice mb n cm, .int .i64 p, .int .i64 r] wx (AddOut u w0)) := fun hin w0 wx e0 ex => by
    have hyt := tabOk_tabOf.1 hin
    have := BoundHigh_tab ax mb cx cm n m p r y b w0 wx (RX.out.ext (e0.trans ex)) (RB.out.ext (e0.trans ex)) hyt hpn hrm ex
    rwa [← high_same HF.out.pos hyt.pos hpn hrm (fun z => HY.out.fits.swap z), hu] at this
  have LOWX : Hid (tabOk (tabOf n m y) = true → ∀ w0 wx : World, Ext w3 w0 → Ext w0 wx → Calls Try.prog 18 #[.slice ax n cx, .slice mb n cm, .int .i64 p, .int .i64 r] wx (AddOut v w0)) := fun hin w0 wx e0 ex => by
    have hyt := tabOk_tabOf.1 hin
    have := BoundLow_tab ax mb cx cm n m p r y b w0 wx (RX.out.ext (e0.trans ex)) (RB.out.ext (e0.trans ex)) hyt hpn hrm ex
    rwa [← low_same HF.out.pos hyt.pos hpn hrm (fun z => HY.out.fits.swap z), hv] at this
  have VX := TableValid_any ax cx (tabOf n m y)
  have VT : Hid (∀ wx : World, Ext w3 wx → Calls Try.prog 21 #[.slice (some ⟨tb, tf, none⟩) n c] wx (fun e w' => e = .returned (.bool true) ∧ wx = w')) := fun wx ex => by
    have := TableValid_any (some ⟨tb, tf, none⟩) c (tabOf n m f) wx (RA.out.ext ex) (by rw [tabOf_length]; omega)
    rwa [tabOf_length, tabOk_tabOf.2 HF.out] at this
  rw [tabOf_length] at VX
  have HVX := Lib.hid VX
  clear hu hv VX hf1
  have hpz := HPZ.out; have hqz := HQZ.out; have hrz := HRZ.out
  have tpz : (ys.length : Int).tmod (n : Int) = (p : Int) := by rw [Int.tmod_eq_emod_of_nonneg (by omega)]; exact hpz
  have tqz : (ys.length : Int).tdiv (n : Int) = (qn : Int) := by rw [Int.tdiv_eq_ediv_of_nonneg (by omega)]; exact hqz
  have trz : (qn : Int).tmod (m : Int) = (r : Int) := by rw [Int.tmod_eq_emod_of_nonneg (by omega)]; exact hrz
  have hn0 : ¬ (n : Int) = 0 := by omega
  have hmm0 : ¬ (m : Int) = 0 := by omega
  have hn0b : ((n : Int) == 0) = false := by rw [beq_eq_false_iff_ne]; omega
  have hmm0b : ((m : Int) == 0) = false := by rw [beq_eq_false_iff_ne]; omega
  have hn0n : ¬ n = 0 := by omega
  have hm0n : ¬ m = 0 := by omega
  have h0n : 0 < n := by omega
  have wpz : IntKind.i64.wrap (p : Int) = (p : Int) := IntWalk.i64_in _ (by omega)
  have wrz : IntKind.i64.wrap (r : Int) = (r : Int) := IntWalk.i64_in _ (by omega)
  have wqz : IntKind.i64.wrap (qn : Int) = (qn : Int) := IntWalk.i64_in _ (by omega)
  go_wp2_with fail
  go_quiet (fail)
  go_wp2_with fail
  clear hpz hqz hrz tpz tqz trz wqz wpz wrz hn0 hmm0 hn0b hmm0b hn0n hm0n h0n
  obtain ⟨w4, hw4⟩ : ∃ w4, w3.drewN nq = w4 := ⟨_, rfl⟩
  have EW := Lib.hid ((Ext.refl w3).drewN nq)
  rw [hw4] at EW ⊢
  clear hw4 ct0
  cases hin : tabOk (tabOf n m y) with
  | false =>
    have HIN := Lib.hid hin
    clear hin
    refine (HVX.out w4 (RX.out.ext EW.out) (by omega)).mono ?_
    rw [HIN.out]
    rintro e w5 ⟨rfl, rfl⟩
    go_wp2_with fail
    refine (VT.out w4 EW.out).mono ?_
    rintro e w6 ⟨rfl, rfl⟩
    go_wp2_with fail
    go_ret
    exact ⟨rfl, E3.trans EW.out⟩
  | true =>
    have HIN := Lib.hid hin
    clear hin
    refine (HVX.out w4 (RX.out.ext EW.out) (by omega)).mono ?_
    rw [HIN.out]
    rintro e w5 ⟨rfl, rfl⟩
    have EW5 := EW
    have hq1 : (u == u) = true := by simp
    have hq2 : (v == v) = true := by simp
    go_wp2_with fail
    refine (HIGH.out w4 w4 EW5.out (Ext.refl _)).mono ?_
    rintro e w6 ⟨rfl, e6⟩
    go_wp2_with fail
    refine (HIGHX.out HIN.out w6 w6 (EW5.out.trans e6) (Ext.refl _)).mono ?_
    rintro e w7 ⟨rfl, e7⟩
    go_wp2_with fail
    refine (LOW.out w7 w7 (EW5.out.trans (e6.trans e7)) (Ext.refl _)).mono ?_
    rintro e w8 ⟨rfl, e8⟩
    go_wp2_with fail
    refine (LOWX.out HIN.out w8 w8 (EW5.out.trans ((e6.trans e7).trans e8)) (Ext.refl _)).mono ?_
    rintro e w9 ⟨rfl, e9⟩
    go_wp2_with fail
    go_ret
    exact ⟨rfl, (((((E3.trans EW5.out).trans e6).trans e7).trans e8)).trans e9⟩
end Go.Proofs.Ytelcdjbbcffliaa
