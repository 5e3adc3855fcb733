/- The law FnFitTurn. -/
import Derived.Test.YtelcdjbbcffliaaFitImpl
import Derived.Test.YtelcdjbbcffliaaFitSpec
import Derived.Test.YtelcdjbbcffliaaFitDraw
import Derived.Test.YtelcdjbbcffliaaSafeLaw
namespace Go.Proofs.Ytelcdjbbcffliaa
open Go.RowKit Go.DC
set_option maxRecDepth 10000 in
set_option maxHeartbeats 4000000 in
theorem FnFitTurn_walk (a0 : Option Addr) (c0 : Nat) (xs : List Int) (w : World) (hx : Bytes w a0 xs) (hm0 : xs.length ≤ 9223372036854775807) (hl0 : xs.length ≤ c0) :
    Calls Try.prog 5 #[.slice a0 xs.length c0] w fun e w' => e = .returned (.bool true) ∧ Ext w w' := by
  by_cases hX : 1048576 < xs.length
  · have hz : (1048576 : Int) < (xs.length : Int) := by omega
    go_enter Try.func5, Try.ntmps5
    go_wp2_with fail
    go_ret
    exact ⟨rfl, Ext.refl _⟩
  have hz0 : ¬ (1048576 : Int) < (xs.length : Int) := by omega
  have hb0 : decide (1048576 < xs.length) = false := by simpa using hX
  have HX := Lib.hid hx; clear hx
  go_enter Try.func5, Try.ntmps5
  go_wp2_with fail
  refine (DrawFitTables_any _ _ xs _ HX.out hm0 hl0).mono ?_
  rintro e w1 ⟨a, c, A, mb, cm, mk, ax, cx, X, rfl, ra, rb, rx, hA4, hM5, hX4, e1⟩
  have RA0 := Lib.hid ra; have RB0 := Lib.hid rb; have RX0 := Lib.hid rx
  clear ra rb rx
  go_wp2_with fail
  refine (FitTables_any _ _ _ _ _ _ A mk X _ RA0.out RB0.out RX0.out (by omega) (by omega) (by omega)).mono ?_
  rintro e w2 ⟨rfl, e2⟩
  go_wp2_with fail
  refine (sFitTables_any _ _ _ _ _ _ A mk X _ (RA0.out.ext e2) (RB0.out.ext e2) (RX0.out.ext e2) (by omega) (by omega) (by omega)).mono ?_
  rintro e w3 ⟨rfl, e3⟩
  have E3 := (e1.trans e2).trans e3
  cases hv : fitV A mk X
  · clear hv
    go_wp2_with fail
    go_ret
    exact ⟨rfl, E3⟩
  obtain ⟨n, m, f, b, y, rfl, rfl, rfl, hf, hy⟩ := fitV_ex hv
  have RA := Lib.hid (RA0.out.ext (e2.trans e3)); have RB := Lib.hid (RB0.out.ext (e2.trans e3)); have RX := Lib.hid (RX0.out.ext (e2.trans e3))
  simp only [tabOf_length]
  obtain ⟨⟨hn1, hn4⟩, hm1, hm4⟩ : (1 ≤ n ∧ n ≤ 4) ∧ 1 ≤ m ∧ m ≤ 4 := ⟨⟨hf.1.1, hf.1.2.1⟩, hf.1.2.2⟩
  have HF := Lib.hid hf; have HY := Lib.hid hy
  clear hf hy hv RA0 RB0 RX0 e1 e2 e3 hA4 hM5 hX4
  have FIT2 : Hid (∀ (p q r : Option Addr) (cp cq cr : Nat) (wx : World), IRows wx p (tabOf m n fun i j => f j i) → BRows wx q (tabOf m n fun i j => b j i) → IRows wx r (tabOf m n fun i j => y j i) → Calls Try.prog 23 #[.slice p m cp, .slice q m cq, .slice r m cr] wx (Ret (.bool true) wx)) := fun p q r cp cq cr wx h1 h2 h3 => by
    have h := FitTables_any p q r cp cq cr (tabOf m n fun i j => f j i) (tabOf m n fun i j => b j i) (tabOf m n fun i j => y j i) wx h1 h2 h3 (by rw [tabOf_length]; omega) (by rw [tabOf_length]; omega) (by rw [tabOf_length]; omega)
    rw [tabOf_length, tabOf_length, tabOf_length, fitV_tab HF.out.turned, fitF_iff.2 HY.out.turn] at h
    exact h
  have FIT3 : Hid (∀ (q : Option Addr) (cq : Nat) (wx : World), Ext w3 wx → BRows wx q (tabOf n m fun _ _ => true) → Calls Try.prog 23 #[.slice a n c, .slice q n cq, .slice ax n cx] wx (Ret (.bool true) wx)) := fun q cq wx ex h2 => by
    have h := FitTables_any a q ax c cq cx (tabOf n m f) (tabOf n m fun _ _ => true) (tabOf n m y) wx (RA.out.ext ex) h2 (RX.out.ext ex) (by rw [tabOf_length]; omega) (by rw [tabOf_length]; omega) (by rw [tabOf_length]; omega)
    rw [tabOf_length, tabOf_length, tabOf_length, fitV_tab HF.out, fitF_iff.2 HY.out.all] at h
    exact h
  have TX := TableTurn_any ax cx (tabOf n m y)
  rw [tabOf_length] at TX
  have HTX := Lib.hid TX
  clear TX
  go_wp2_with fail
  refine (TableTurn_tab a c n m f w3 w3 RA.out HF.out (Ext.refl _)).mono ?_
  rintro e w4 ⟨at4, ct4, rfl, rt, e4⟩
  have RT := Lib.hid rt
  clear rt
  cases hin : tabOk (tabOf n m y) with
  | false =>
    have HIN := Lib.hid hin
    clear hin
    go_wp2_with fail
    refine (HTX.out w4 (RX.out.ext e4) (by omega)).mono ?_
    rintro e w5 ⟨v5, vs5, rfl, o5, e5⟩
    rw [HIN.out]
    have E35 := e4.trans e5
    clear o5 e5
    go_wp2_with fail
    refine (allMask_tab a c n m f true w5 w5 (RA.out.ext E35) HF.out (Ext.refl _)).mono ?_
    rintro e w6 ⟨am, cam, rfl, rm, e6⟩
    have RM := Lib.hid rm
    clear rm
    go_wp2_with fail
    refine (FIT3.out am cam w6 (E35.trans e6) RM.out).mono ?_
    rintro e w7 ⟨rfl, e7⟩
    go_wp2_with fail
    go_ret
    exact ⟨rfl, ((E3.trans E35).trans e6).trans e7⟩
  | true =>
    have hyt := tabOk_tabOf.1 hin
    have HIN := Lib.hid hyt
    clear hin hyt
    go_wp2_with fail
    refine (TableTurn_tab ax cx n m y w4 w4 (RX.out.ext e4) HIN.out (Ext.refl _)).mono ?_
    rintro e w5 ⟨bt5, dt5, rfl, rt5, e5⟩
    have RT5 := Lib.hid rt5
    have E35 := e4.trans e5
    clear rt5
    go_wp2_with fail
    refine (turnMask_tab mb cm n m b w5 w5 (RB.out.ext E35) hn1 hn4 hm4 (Ext.refl _)).mono ?_
    rintro e w6 ⟨am6, cam6, rfl, rm6, e6⟩
    have RM6 := Lib.hid rm6
    clear rm6
    go_wp2_with fail
    refine (FIT2.out at4 am6 bt5 ct4 cam6 dt5 w6 (RT.out.ext (e5.trans e6)) RM6.out (RT5.out.ext e6)).mono ?_
    rintro e w7 ⟨rfl, e7⟩
    have E37 := (E35.trans e6).trans e7
    go_wp2_with fail
    refine (allMask_tab a c n m f true w7 w7 (RA.out.ext E37) HF.out (Ext.refl _)).mono ?_
    rintro e w8 ⟨am, cam, rfl, rm, e8⟩
    have RM := Lib.hid rm
    clear rm
    go_wp2_with fail
    refine (FIT3.out am cam w8 (E37.trans e8) RM.out).mono ?_
    rintro e w9 ⟨rfl, e9⟩
    go_wp2_with fail
    go_ret
    exact ⟨rfl, ((E3.trans E37).trans e8).trans e9⟩
end Go.Proofs.Ytelcdjbbcffliaa
